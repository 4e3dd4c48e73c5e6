/- A part of the proof of the law: what functions of the program come to, walked by Rx, or plain facts on it. -/
import Derived.Test.YtahnmikdpclbfaaRJ3
import Derived.Test.YtahnmikdpclbfaaRSpecR
import Derived.Test.YtahnmikdpclbfaaRChk
section
open Go Go.Rx Go.Proofs Go.Rx11 Go.RxTree
set_option maxRecDepth 1000000
set_option maxHeartbeats 4000000
set_option linter.unusedVariables false
set_option linter.unusedSimpArgs false
namespace Go.Rx11
theorem lenP {n : Nat} (h : n ≤ 50000000) : (n + 1) * (80 + 1) ≤ lim := by unfold lim; omega
theorem r25E (j : Nat) (B : List UInt8) (hB : B.length ≤ LB) (hj : 7 * B.length + 20000 < j) (id : List UInt8) (n : Nat) (hn16 : n ≤ 1000000) {lp : LP} (hlp : lp = lpOf Try.prog cfg (icall Try.prog cfg j) Try.f25.ntmps 25 j (([] : Hp).map (·.1))) (a : Nat) (e : Int) (z : Int) (he : e ≠ 0 ∨ ¬ z < (n : Int)) (lf : Nat) (hlf : 0 < lf) (st : St)
    (hp : prune [] [0, 2, 4, 5, 6, 7] st = some ⟨[(0, .d (.list (bL B))), (2, .ptr (.slot 2) 0), (4, .ptr (.slot 12) 0), (5, .ptr (.slot 5) 0), (6, .d (.int .i64 n)), (7, .d (.int .i64 z))], [(.slot 2, .cells [.d (.str []), .nilsl]), (.slot 12, .cells [.d (.list (bL B)), .d (.int .i64 a), .d (.int .i64 e)]), (.slot 5, .cells [.d (.str id), .nilsl])]⟩) :
    loopK Try.prog cfg (icall Try.prog cfg j) lp Try.f25.ntmps 25 [] (bodyAt Try.f25 6) lf st (exitP [] (some [0, 2, 4, 5])) = some (.exit 0, ⟨[(0, .d (.list (bL B))), (2, .ptr (.slot 2) 0), (4, .ptr (.slot 12) 0), (5, .ptr (.slot 5) 0)], [(.slot 2, .cells [.d (.str []), .nilsl]), (.slot 12, .cells [.d (.list (bL B)), .d (.int .i64 a), .d (.int .i64 e)]), (.slot 5, .cells [.d (.str id), .nilsl])]⟩) := by
  obtain ⟨lf, rfl⟩ : ∃ n, lf = n + 1 := ⟨lf - 1, by omega⟩
  refine loop_step hp ?_
  conv => lhs; whnf
  refine iteK_dec (fun h1 => ?_) (fun h1 => ?_)
  · rw [dec_t h1]
    conv => lhs; whnf
    refine iteK_beq (fun h2 => ?_) (fun h2 => ?_)
    · obtain rfl : e = (0 : Int) := h2
      (exfalso; omega)
    · rw [beq_f h2]
      conv => lhs; whnf
      refine Eq.trans (b := some (Fx.exit (0 : Nat), St.mk [((0 : Nat), AV.d (D.list (bL B))), ((2 : Nat), AV.ptr (Nm.slot (2 : Nat)) (0 : Nat)), ((4 : Nat), AV.ptr (Nm.slot (12 : Nat)) (0 : Nat)), ((5 : Nat), AV.ptr (Nm.slot (5 : Nat)) (0 : Nat))] [(Nm.slot (2 : Nat), AObj.cells [AV.d (D.str []), AV.nilsl]), (Nm.slot (12 : Nat), AObj.cells [AV.d (D.list (bL B)), AV.d (D.int IntKind.i64 ↑a), AV.d (D.int IntKind.i64 e)]), (Nm.slot (5 : Nat), AObj.cells [AV.d (D.str id), AV.nilsl])])) (by kernel_rfl) ?_
      rfl
  · rw [dec_f h1]
    conv => lhs; whnf
    refine Eq.trans (b := some (Fx.exit (0 : Nat), St.mk [((0 : Nat), AV.d (D.list (bL B))), ((2 : Nat), AV.ptr (Nm.slot (2 : Nat)) (0 : Nat)), ((4 : Nat), AV.ptr (Nm.slot (12 : Nat)) (0 : Nat)), ((5 : Nat), AV.ptr (Nm.slot (5 : Nat)) (0 : Nat))] [(Nm.slot (2 : Nat), AObj.cells [AV.d (D.str []), AV.nilsl]), (Nm.slot (12 : Nat), AObj.cells [AV.d (D.list (bL B)), AV.d (D.int IntKind.i64 ↑a), AV.d (D.int IntKind.i64 e)]), (Nm.slot (5 : Nat), AObj.cells [AV.d (D.str id), AV.nilsl])])) (by kernel_rfl) ?_
    rfl
theorem r25F (j : Nat) (B : List UInt8) (hB : B.length ≤ LB) (hj : 7 * B.length + 20000 < j) (id : List UInt8) (n : Nat) (hn16 : n ≤ 1000000) {lp : LP} (hlp : lp = lpOf Try.prog cfg (icall Try.prog cfg j) Try.f25.ntmps 25 j (([] : Hp).map (·.1))) (es : List (List D)) (l : Nat) (a : Nat) (e : Int) (z : Int) (he : e ≠ 0 ∨ ¬ z < (n : Int)) (lf : Nat) (hlf : 0 < lf) (st : St)
    (hp : prune [] [0, 2, 4, 5, 6, 7] st = some ⟨[(0, .d (.list (bL B))), (2, .ptr (.slot 2) 0), (4, .ptr (.slot 12) 0), (5, .ptr (.slot 5) 0), (6, .d (.int .i64 n)), (7, .d (.int .i64 z))], [(.slot 2, .cells [.d (.str []), .nilsl]), (.slot 12, .cells [.d (.list (bL B)), .d (.int .i64 a), .d (.int .i64 e)]), (.slot 5, .cells [.d (.str id), .own (.slot 37) 0 l]), (.slot 37, .arr 57 5 0 es)]⟩) :
    loopK Try.prog cfg (icall Try.prog cfg j) lp Try.f25.ntmps 25 [] (bodyAt Try.f25 6) lf st (exitP [] (some [0, 2, 4, 5])) = some (.exit 0, ⟨[(0, .d (.list (bL B))), (2, .ptr (.slot 2) 0), (4, .ptr (.slot 12) 0), (5, .ptr (.slot 5) 0)], [(.slot 2, .cells [.d (.str []), .nilsl]), (.slot 12, .cells [.d (.list (bL B)), .d (.int .i64 a), .d (.int .i64 e)]), (.slot 5, .cells [.d (.str id), .own (.slot 37) 0 l]), (.slot 37, .arr 57 5 0 es)]⟩) := by
  obtain ⟨lf, rfl⟩ : ∃ n, lf = n + 1 := ⟨lf - 1, by omega⟩
  refine loop_step hp ?_
  conv => lhs; whnf
  refine iteK_dec (fun h1 => ?_) (fun h1 => ?_)
  · rw [dec_t h1]
    conv => lhs; whnf
    refine iteK_beq (fun h2 => ?_) (fun h2 => ?_)
    · obtain rfl : e = (0 : Int) := h2
      (exfalso; omega)
    · rw [beq_f h2]
      conv => lhs; whnf
      refine Eq.trans (b := some (Fx.exit (0 : Nat), St.mk [((0 : Nat), AV.d (D.list (bL B))), ((2 : Nat), AV.ptr (Nm.slot (2 : Nat)) (0 : Nat)), ((4 : Nat), AV.ptr (Nm.slot (12 : Nat)) (0 : Nat)), ((5 : Nat), AV.ptr (Nm.slot (5 : Nat)) (0 : Nat))] [(Nm.slot (2 : Nat), AObj.cells [AV.d (D.str []), AV.nilsl]), (Nm.slot (12 : Nat), AObj.cells [AV.d (D.list (bL B)), AV.d (D.int IntKind.i64 ↑a), AV.d (D.int IntKind.i64 e)]), (Nm.slot (5 : Nat), AObj.cells [AV.d (D.str id), AV.own (Nm.slot (37 : Nat)) (nat_lit 0) l]), (Nm.slot (37 : Nat), AObj.arr (57 : Nat) (5 : Nat) (nat_lit 0) es)])) (by kernel_rfl) ?_
      rfl
  · rw [dec_f h1]
    conv => lhs; whnf
    refine Eq.trans (b := some (Fx.exit (0 : Nat), St.mk [((0 : Nat), AV.d (D.list (bL B))), ((2 : Nat), AV.ptr (Nm.slot (2 : Nat)) (0 : Nat)), ((4 : Nat), AV.ptr (Nm.slot (12 : Nat)) (0 : Nat)), ((5 : Nat), AV.ptr (Nm.slot (5 : Nat)) (0 : Nat))] [(Nm.slot (2 : Nat), AObj.cells [AV.d (D.str []), AV.nilsl]), (Nm.slot (12 : Nat), AObj.cells [AV.d (D.list (bL B)), AV.d (D.int IntKind.i64 ↑a), AV.d (D.int IntKind.i64 e)]), (Nm.slot (5 : Nat), AObj.cells [AV.d (D.str id), AV.own (Nm.slot (37 : Nat)) (nat_lit 0) l]), (Nm.slot (37 : Nat), AObj.arr (57 : Nat) (5 : Nat) (nat_lit 0) es)])) (by kernel_rfl) ?_
    rfl
theorem r25L (j : Nat) (B : List UInt8) (hB : B.length ≤ LB) (hj : 7 * B.length + 20000 < j) (id : List UInt8) (n : Nat) (hn16 : n ≤ 1000000) {lp : LP} (hlp : lp = lpOf Try.prog cfg (icall Try.prog cfg j) Try.f25.ntmps 25 j (([] : Hp).map (·.1))) :
    ∀ (m i : Nat) (z : Int) (s : Sg) (a : Nat) (e : Int) (l : Nat) (es : List (List D)), n - i = m → i ≤ n → z = (i : Int) → Rf B a s → s.2 = e → es.length = l → l ≤ 2000000 + i →
    ∃ a', Rf B a' (sPlaces m s).2 ∧ ∀ (lf : Nat) (st : St), m + 1 < lf → prune [] [0, 2, 4, 5, 6, 7] st = some ⟨[(0, .d (.list (bL B))), (2, .ptr (.slot 2) 0), (4, .ptr (.slot 12) 0), (5, .ptr (.slot 5) 0), (6, .d (.int .i64 n)), (7, .d (.int .i64 z))], [(.slot 2, .cells [.d (.str []), .nilsl]), (.slot 12, .cells [.d (.list (bL B)), .d (.int .i64 a), .d (.int .i64 e)]), (.slot 5, .cells [.d (.str id), .own (.slot 37) 0 l]), (.slot 37, .arr 57 5 0 es)]⟩ →
    loopK Try.prog cfg (icall Try.prog cfg j) lp Try.f25.ntmps 25 [] (bodyAt Try.f25 6) lf st (exitP [] (some [0, 2, 4, 5])) = some (.exit 0, ⟨[(0, .d (.list (bL B))), (2, .ptr (.slot 2) 0), (4, .ptr (.slot 12) 0), (5, .ptr (.slot 5) 0)], [(.slot 2, .cells [.d (.str []), .nilsl]), (.slot 12, .cells [.d (.list (bL B)), .d (.int .i64 a'), .d (.int .i64 (sPlaces m s).2.2)]), (.slot 5, .cells [.d (.str id), .own (.slot 37) 0 (es ++ (sPlaces m s).1.map PlaceT.cells).length]), (.slot 37, .arr 57 5 0 (es ++ (sPlaces m s).1.map PlaceT.cells))]⟩) := by
  intro m
  have hmx : 1000001 ≤ maxLen := by decide
  induction m with
  | zero =>
    intro i z s a e l es hi hle hz h he hl hb
    refine ⟨a, h, fun lf st hlf hp => ?_⟩
    rw [r25F j B hB hj id n hn16 hlp es l a e z (.inr (by omega)) lf (by omega) st hp]
    rw [sPlaces, List.map_nil, List.append_nil, hl, he]
  | succ m ihm =>
    intro i z s a e l es hi hle hz h he hl hb
    by_cases g0 : e ≠ 0
    · refine ⟨a, by rw [sPlaces_e _ (by omega)]; exact h, fun lf st hlf hp => ?_⟩
      rw [r25F j B hB hj id n hn16 hlp es l a e z (.inl g0) lf (by omega) st hp]
      rw [sPlaces_e _ (by omega), List.map_nil, List.append_nil, hl, he]
    · have g1 : s.2 = 0 := by omega
      obtain rfl : e = 0 := by omega
      rw [sPlaces_1 _ g1]
      obtain ⟨a1, h1, c1⟩ := place55 B hB a s h j hj
      generalize sPlace s = r1 at *
      obtain ⟨p, s1⟩ := r1
      dsimp only at h1 c1 ⊢
      have hR : es.take l ++ [[D.int .i64 p.kind, D.str p.name, D.int .i64 p.n, D.list (cellsL p.arg), D.list (p.out.map FlowT.cells)]] = es ++ [p.cells] := by rw [List.take_of_length_le (by omega)]; rfl
      have hRl : (es ++ [p.cells]).length = l + 1 := by rw [List.length_append, hl]; rfl
      obtain ⟨a3, h3, hih⟩ := ihm (i + 1) (IntKind.i64.wrap (z + 1)) s1 a1 _ (l + 1) (es ++ [p.cells]) (by omega) (by omega) (wrap_up hz (by omega)) h1 rfl hRl (by omega)
      refine ⟨a3, h3, fun lf st hlf hp => ?_⟩
      have hA : es ++ (p :: (sPlaces m s1).1).map PlaceT.cells = (es ++ [p.cells]) ++ (sPlaces m s1).1.map PlaceT.cells := by rw [List.append_assoc]; rfl
      rw [hA]
      rw [← hR] at hih ⊢
      have hend : z < (n : Int) := by omega
      rw [g1] at c1
      generalize sPlaces m s1 = rr at *
      obtain ⟨pk, pn, pv, pa, po⟩ := p
      obtain ⟨b1, e1⟩ := s1
      dsimp only at c1 hih ⊢
      obtain ⟨lf, rfl⟩ : ∃ n, lf = n + 1 := ⟨lf - 1, by omega⟩
      refine loop_step hp ?_
      conv => lhs; whnf
      refine iteK_dec_t hend ?_
      conv => lhs; whnf
      refine iteK_dec_t hend ?_
      conv => lhs; whnf
      refine iteK_dec_t hend ?_
      conv => lhs; whnf
      refine iteK_dec_t hend ?_
      conv => lhs; whnf
      refine iteK_dec_t hend ?_
      conv => lhs; whnf
      refine iteK_dec_t hend ?_
      conv => lhs; whnf
      refine nextK_of c1 ?_
      conv => lhs; whnf
      refine nextK_of (aop_app rfl rfl rfl rfl rfl rfl rfl rfl rfl rfl rfl rfl (lenP (by omega))) ?_
      conv => lhs; whnf
      refine Eq.trans (hih lf _ (by omega) rfl) ?_
      rfl
theorem r25S (j : Nat) (B : List UInt8) (hB : B.length ≤ LB) (hj : 7 * B.length + 20000 < j) (id : List UInt8) (n : Nat) (hn16 : n ≤ 1000000) {lp : LP} (hlp : lp = lpOf Try.prog cfg (icall Try.prog cfg j) Try.f25.ntmps 25 j (([] : Hp).map (·.1))) (m : Nat) (hm : n = m + 1) (s : Sg) (a : Nat) (h : Rf B a s) (g1 : s.2 = 0) :
    ∃ a', Rf B a' (sPlaces (m + 1) s).2 ∧ ∀ (lf : Nat) (st : St), m + 3 < lf → prune [] [0, 2, 4, 5, 6, 7] st = some ⟨[(0, .d (.list (bL B))), (2, .ptr (.slot 2) 0), (4, .ptr (.slot 12) 0), (5, .ptr (.slot 5) 0), (6, .d (.int .i64 n)), (7, .d (.int .i64 0))], [(.slot 2, .cells [.d (.str []), .nilsl]), (.slot 12, .cells [.d (.list (bL B)), .d (.int .i64 a), .d (.int .i64 0)]), (.slot 5, .cells [.d (.str id), .nilsl])]⟩ →
    loopK Try.prog cfg (icall Try.prog cfg j) lp Try.f25.ntmps 25 [] (bodyAt Try.f25 6) lf st (exitP [] (some [0, 2, 4, 5])) = some (.exit 0, ⟨[(0, .d (.list (bL B))), (2, .ptr (.slot 2) 0), (4, .ptr (.slot 12) 0), (5, .ptr (.slot 5) 0)], [(.slot 2, .cells [.d (.str []), .nilsl]), (.slot 12, .cells [.d (.list (bL B)), .d (.int .i64 a'), .d (.int .i64 (sPlaces (m + 1) s).2.2)]), (.slot 5, .cells [.d (.str id), .own (.slot 37) 0 ((sPlaces (m + 1) s).1.map PlaceT.cells).length]), (.slot 37, .arr 57 5 0 ((sPlaces (m + 1) s).1.map PlaceT.cells))]⟩) := by
  rw [sPlaces_1 _ g1]
  obtain ⟨a1, h1, c1⟩ := place55 B hB a s h j hj
  generalize sPlace s = r1 at *
  obtain ⟨p, s1⟩ := r1
  dsimp only at h1 c1 ⊢
  obtain ⟨a3, h3, hih⟩ := r25L j B hB hj id n hn16 hlp m 1 1 s1 a1 _ 1 [p.cells] (by omega) (by omega) rfl h1 rfl rfl (by omega)
  refine ⟨a3, h3, fun lf st hlf hp => ?_⟩
  have hend : (0 : Int) < (n : Int) := by omega
  rw [g1] at c1
  have hA : (p :: (sPlaces m s1).1).map PlaceT.cells = [p.cells] ++ (sPlaces m s1).1.map PlaceT.cells := rfl
  rw [hA]
  generalize sPlaces m s1 = rr at *
  obtain ⟨pk, pn, pv, pa, po⟩ := p
  obtain ⟨b1, e1⟩ := s1
  dsimp only at c1 hih ⊢
  obtain ⟨lf, rfl⟩ : ∃ n, lf = n + 1 := ⟨lf - 1, by omega⟩
  refine loop_step hp ?_
  conv => lhs; whnf
  refine iteK_dec_t hend ?_
  conv => lhs; whnf
  refine iteK_dec_t hend ?_
  conv => lhs; whnf
  refine iteK_dec_t hend ?_
  conv => lhs; whnf
  refine iteK_dec_t hend ?_
  conv => lhs; whnf
  refine iteK_dec_t hend ?_
  conv => lhs; whnf
  refine iteK_dec_t hend ?_
  conv => lhs; whnf
  refine nextK_of c1 ?_
  conv => lhs; whnf
  refine Eq.trans (hih lf _ (by omega) rfl) ?_
  rfl
theorem read25 (b : List UInt8) (hb : b.length ≤ LB) (k : Nat) (hk : 7 * b.length + (sDef b).wt + 30000 < k) : icall Try.prog cfg k 25 [.d (.list (bL b))] [] = some (.ret (.tuple [(readD b).1.av, .d (.int .i64 (readD b).2)]), []) := by
  obtain ⟨k, rfl⟩ : ∃ j, k = j + 1 := ⟨k - 1, by omega⟩
  obtain ⟨o1, o2⟩ := sDef_ok b hb
  have cd := check13 (sDef b) o2 o1 k (by omega)
  obtain ⟨a1, h1, c1⟩ := pText hb (s := (b, 0)) (a := 0) ⟨by omega, Nat.le_refl _, fun _ => rfl⟩
  obtain ⟨a2, h2, c2⟩ := pUint hb 4096 (by omega) h1
  replace c1 := c1 k (by omega)
  replace c2 := c2 k (by omega)
  have hn := sN_most 4096 (sT (b, 0)).2
  have hbl := bL_len b
  have x1 := @readD_e b
  have x2 := @readD_3 b
  have x3 := @readD_c b
  have x4 := @readD_0 b
  generalize readD b = rd at *
  replace hk : 7 * b.length + 29000 < k := by omega
  unfold sDef sD3 sD2 sD1 at *
  generalize sT (b, 0) = r1 at *
  obtain ⟨v1, b1, e1⟩ := r1
  dsimp only at c1 c2 h1 h2 cd hn x1 x2 x3 x4
  generalize sN 4096 (b1, e1) = r2 at *
  obtain ⟨n, b2, e2⟩ := r2
  dsimp only at c1 c2 h1 h2 cd hn x1 x2 x3 x4
  obtain ⟨lp, hlp⟩ : ∃ lp, lp = lpOf Try.prog cfg (icall Try.prog cfg k) Try.f25.ntmps 25 k (([] : Hp).map (·.1)) := ⟨_, rfl⟩
  by_cases g0 : e2 ≠ 0 ∨ n = 0
  · have hf : sPlaces n (b2, e2) = ([], b2, e2) := by
      rcases g0 with g | rfl
      · exact sPlaces_e n g
      · rfl
    rw [hf] at cd x1 x2 x3 x4
    dsimp only at cd x1 x2 x3 x4
    have hl := r25E k b hb (by omega) v1 n (by omega) hlp a2 e2 0 (by omega) k (by omega)
    generalize hec : checkD ⟨v1, []⟩ = ec at *
    obtain ⟨q1, q2, q3⟩ := h2
    dsimp only at q2 q3
    by_cases ge : e2 = 0
    · subst ge
      replace q3 := q3 rfl
      have hlen : b2.length = b.length - a2 := by rw [q3, List.length_drop]
      by_cases gl : 0 < b2.length
      · obtain rfl := x2 rfl gl
        rw [icall_body rfl Try.func25]
        rw [← hlp]
        conv => lhs; whnf
        refine nextK_of c1 ?_
        conv => lhs; whnf
        refine nextK_of c2 ?_
        conv => lhs; whnf
        refine nextK_of (loop_at hlp (hl _ rfl)) ?_
        conv => lhs; whnf
        refine iteK_dec (fun h1 => ?_) (fun h1 => ?_)
        · rw [dec_t h1]
          conv => lhs; whnf
          refine Eq.trans (b := some (Res.ret (AV.tuple [AV.agg [AV.d (D.str []), AV.d (D.list [])], AV.d (D.int IntKind.i64 (3 : Int))]), [])) (by kernel_rfl) ?_
          rfl
        · rw [dec_f h1]
          (exfalso; omega)
      · by_cases gc : ec = 0
        · obtain rfl := x4 rfl gl gc
          subst gc
          rw [icall_body rfl Try.func25]
          rw [← hlp]
          conv => lhs; whnf
          refine nextK_of c1 ?_
          conv => lhs; whnf
          refine nextK_of c2 ?_
          conv => lhs; whnf
          refine nextK_of (loop_at hlp (hl _ rfl)) ?_
          conv => lhs; whnf
          refine iteK_dec (fun h1 => ?_) (fun h1 => ?_)
          · rw [dec_t h1]
            (exfalso; omega)
          · rw [dec_f h1]
            conv => lhs; whnf
            refine nextK_of cd ?_
            conv => lhs; whnf
            refine Eq.trans (b := some (Res.ret (AV.tuple [AV.agg [AV.d (D.str v1), AV.d (D.list [])], AV.d (D.int IntKind.i64 (0 : Int))]), [])) (by kernel_rfl) ?_
            rfl
        · obtain rfl := x3 rfl gl gc
          rw [icall_body rfl Try.func25]
          rw [← hlp]
          conv => lhs; whnf
          refine nextK_of c1 ?_
          conv => lhs; whnf
          refine nextK_of c2 ?_
          conv => lhs; whnf
          refine nextK_of (loop_at hlp (hl _ rfl)) ?_
          conv => lhs; whnf
          refine iteK_dec (fun h1 => ?_) (fun h1 => ?_)
          · rw [dec_t h1]
            (exfalso; omega)
          · rw [dec_f h1]
            conv => lhs; whnf
            refine nextK_of cd ?_
            conv => lhs; whnf
            refine iteK_bne_t gc ?_
            conv => lhs; whnf
            refine Eq.trans (b := some (Res.ret (AV.tuple [AV.agg [AV.d (D.str []), AV.d (D.list [])], AV.d (D.int IntKind.i64 ec)]), [])) (by kernel_rfl) ?_
            rfl
    · obtain rfl := x1 ge
      rw [icall_body rfl Try.func25]
      rw [← hlp]
      conv => lhs; whnf
      refine nextK_of c1 ?_
      conv => lhs; whnf
      refine nextK_of c2 ?_
      conv => lhs; whnf
      refine nextK_of (loop_at hlp (hl _ rfl)) ?_
      conv => lhs; whnf
      refine iteK_bne_t ge ?_
      conv => lhs; whnf
      refine iteO_t (by kernel_rfl) ?_
      conv => lhs; whnf
      refine iteO_t (by kernel_rfl) ?_
      conv => lhs; whnf
      refine Eq.trans (b := some (Res.ret (AV.tuple [AV.agg [AV.d (D.str []), AV.d (D.list [])], AV.d (D.int IntKind.i64 e2)]), [])) (by kernel_rfl) ?_
      rfl
  · obtain ⟨m, rfl⟩ : ∃ m, n = m + 1 := ⟨n - 1, by omega⟩
    obtain rfl : e2 = 0 := by omega
    obtain ⟨a3, h3, hl⟩ := r25S k b hb (by omega) v1 (m + 1) (by omega) hlp m rfl (b2, 0) a2 h2 rfl
    replace hl := fun st => hl k st (by omega)
    generalize sPlaces (m + 1) (b2, 0) = rr at *
    obtain ⟨pl, b3, e3⟩ := rr
    dsimp only at hl cd h3 x1 x2 x3 x4
    change icall Try.prog cfg k _ [.agg [.d (.str v1), .d (.list (pl.map PlaceT.cells))]] [] = _ at cd
    generalize hec : checkD ⟨v1, pl⟩ = ec at *
    have hav : (⟨v1, pl⟩ : DefT).av = .agg [.d (.str v1), .d (.list ((pl.map PlaceT.cells).take (pl.map PlaceT.cells).length))] := by rw [List.take_length]; rfl
    replace cd : icall Try.prog cfg k 13 [.agg [.d (.str v1), .d (.list ((pl.map PlaceT.cells).take (pl.map PlaceT.cells).length))]] [] = some (.ret (.d (.int .i64 ec)), []) := by rw [List.take_length]; exact cd
    obtain ⟨q1, q2, q3⟩ := h3
    dsimp only at q2 q3
    by_cases ge : e3 = 0
    · subst ge
      replace q3 := q3 rfl
      have hlen : b3.length = b.length - a3 := by rw [q3, List.length_drop]
      by_cases gl : 0 < b3.length
      · obtain rfl := x2 rfl gl
        clear hav cd
        generalize pl.map PlaceT.cells = R at *
        rw [icall_body rfl Try.func25]
        rw [← hlp]
        conv => lhs; whnf
        refine nextK_of c1 ?_
        conv => lhs; whnf
        refine nextK_of c2 ?_
        conv => lhs; whnf
        refine nextK_of (loop_at hlp (hl _ rfl)) ?_
        conv => lhs; whnf
        refine iteK_dec (fun h1 => ?_) (fun h1 => ?_)
        · rw [dec_t h1]
          conv => lhs; whnf
          refine Eq.trans (b := some (Res.ret (AV.tuple [AV.agg [AV.d (D.str []), AV.d (D.list [])], AV.d (D.int IntKind.i64 (3 : Int))]), [])) (by kernel_rfl) ?_
          rfl
        · rw [dec_f h1]
          (exfalso; omega)
      · by_cases gc : ec = 0
        · obtain rfl := x4 rfl gl gc
          subst gc
          dsimp only
          rw [hav]
          clear hav
          generalize pl.map PlaceT.cells = R at *
          rw [icall_body rfl Try.func25]
          rw [← hlp]
          conv => lhs; whnf
          refine nextK_of c1 ?_
          conv => lhs; whnf
          refine nextK_of c2 ?_
          conv => lhs; whnf
          refine nextK_of (loop_at hlp (hl _ rfl)) ?_
          conv => lhs; whnf
          refine iteK_dec (fun h1 => ?_) (fun h1 => ?_)
          · rw [dec_t h1]
            (exfalso; omega)
          · rw [dec_f h1]
            conv => lhs; whnf
            refine nextK_of cd ?_
            conv => lhs; whnf
            refine Eq.trans (b := some (Res.ret (AV.tuple [AV.agg [AV.d (D.str v1), AV.d (D.list (List.take (List.length R) R))], AV.d (D.int IntKind.i64 (0 : Int))]), [])) (by kernel_rfl) ?_
            rfl
        · obtain rfl := x3 rfl gl gc
          clear hav
          generalize pl.map PlaceT.cells = R at *
          rw [icall_body rfl Try.func25]
          rw [← hlp]
          conv => lhs; whnf
          refine nextK_of c1 ?_
          conv => lhs; whnf
          refine nextK_of c2 ?_
          conv => lhs; whnf
          refine nextK_of (loop_at hlp (hl _ rfl)) ?_
          conv => lhs; whnf
          refine iteK_dec (fun h1 => ?_) (fun h1 => ?_)
          · rw [dec_t h1]
            (exfalso; omega)
          · rw [dec_f h1]
            conv => lhs; whnf
            refine nextK_of cd ?_
            conv => lhs; whnf
            refine iteK_bne_t gc ?_
            conv => lhs; whnf
            refine Eq.trans (b := some (Res.ret (AV.tuple [AV.agg [AV.d (D.str []), AV.d (D.list [])], AV.d (D.int IntKind.i64 ec)]), [])) (by kernel_rfl) ?_
            rfl
    · obtain rfl := x1 ge
      clear hav cd
      generalize pl.map PlaceT.cells = R at *
      rw [icall_body rfl Try.func25]
      rw [← hlp]
      conv => lhs; whnf
      refine nextK_of c1 ?_
      conv => lhs; whnf
      refine nextK_of c2 ?_
      conv => lhs; whnf
      refine nextK_of (loop_at hlp (hl _ rfl)) ?_
      conv => lhs; whnf
      refine iteK_bne_t ge ?_
      conv => lhs; whnf
      refine iteO_t (by kernel_rfl) ?_
      conv => lhs; whnf
      refine iteO_t (by kernel_rfl) ?_
      conv => lhs; whnf
      refine Eq.trans (b := some (Res.ret (AV.tuple [AV.agg [AV.d (D.str []), AV.d (D.list [])], AV.d (D.int IntKind.i64 e3)]), [])) (by kernel_rfl) ?_
      rfl
end Go.Rx11
end
section
open Go Go.Rx Go.Proofs Go.Rx11 Go.RxTree
set_option maxRecDepth 1000000
set_option maxHeartbeats 4000000
set_option linter.unusedVariables false
set_option linter.unusedSimpArgs false
namespace Go.Rx11
theorem m24EN (j : Nat) (L : Nat) (hL : L ≤ LB) (hj : 7 * L + 20000 < j) (id : List UInt8) (n0 i0 : Int) (kd : Int) (nm : List UInt8) (nv : Int) (al : List (List D)) (n : Nat) (hn16 : n ≤ 1000000) {lp : LP} (hlp : lp = lpOf Try.prog cfg (icall Try.prog cfg j) Try.f24.ntmps 24 j (([] : Hp).map (·.1))) (mb : List UInt8) (e : Int) (z : Int) (he : e ≠ 0 ∨ ¬ z < (n : Int)) (lf : Nat) (hlf : 0 < lf) (st : St)
    (hp : prune [] [2, 4, 5, 6, 7, 8, 9, 10] st = some ⟨[(2, .ptr (.slot 2) 0), (4, .ptr (.slot 14) 0), (5, .ptr (.slot 5) 0), (6, .d (.int .i64 n0)), (7, .d (.int .i64 i0)), (8, .ptr (.slot 8) 0), (9, .d (.int .i64 n)), (10, .d (.int .i64 z))], [(.slot 2, .cells [.d (.str []), .nilsl]), (.slot 14, .cells [.d (.list (bL mb)), .d (.int .i64 e)]), (.slot 5, .cells [.d (.str id), .nilsl]), (.slot 8, .cells [.d (.int .i64 kd), .d (.str nm), .d (.int .i64 nv), .d (.list al), .nilsl])]⟩) :
    loopK Try.prog cfg (icall Try.prog cfg j) lp Try.f24.ntmps 24 [] (bodyAt Try.f24 10) lf st (exitP [] (some [2, 4, 5, 6, 7, 8])) = some (.exit 2, ⟨[(2, .ptr (.slot 2) 0), (4, .ptr (.slot 14) 0), (5, .ptr (.slot 5) 0), (6, .d (.int .i64 n0)), (7, .d (.int .i64 i0)), (8, .ptr (.slot 8) 0)], [(.slot 2, .cells [.d (.str []), .nilsl]), (.slot 14, .cells [.d (.list (bL mb)), .d (.int .i64 e)]), (.slot 5, .cells [.d (.str id), .nilsl]), (.slot 8, .cells [.d (.int .i64 kd), .d (.str nm), .d (.int .i64 nv), .d (.list al), .nilsl])]⟩) := by
  obtain ⟨lf, rfl⟩ : ∃ n, lf = n + 1 := ⟨lf - 1, by omega⟩
  refine loop_step hp ?_
  conv => lhs; whnf
  refine iteK_dec (fun h1 => ?_) (fun h1 => ?_)
  · rw [dec_t h1]
    conv => lhs; whnf
    refine iteK_beq (fun h2 => ?_) (fun h2 => ?_)
    · obtain rfl : e = (0 : Int) := h2
      (exfalso; omega)
    · rw [beq_f h2]
      conv => lhs; whnf
      refine Eq.trans (b := some (Fx.exit (2 : Nat), St.mk [((2 : Nat), AV.ptr (Nm.slot (2 : Nat)) (0 : Nat)), ((4 : Nat), AV.ptr (Nm.slot (14 : Nat)) (0 : Nat)), ((5 : Nat), AV.ptr (Nm.slot (5 : Nat)) (0 : Nat)), ((6 : Nat), AV.d (D.int IntKind.i64 n0)), ((7 : Nat), AV.d (D.int IntKind.i64 i0)), ((8 : Nat), AV.ptr (Nm.slot (8 : Nat)) (0 : Nat))] [(Nm.slot (2 : Nat), AObj.cells [AV.d (D.str []), AV.nilsl]), (Nm.slot (14 : Nat), AObj.cells [AV.d (D.list (bL mb)), AV.d (D.int IntKind.i64 e)]), (Nm.slot (5 : Nat), AObj.cells [AV.d (D.str id), AV.nilsl]), (Nm.slot (8 : Nat), AObj.cells [AV.d (D.int IntKind.i64 kd), AV.d (D.str nm), AV.d (D.int IntKind.i64 nv), AV.d (D.list al), AV.nilsl])])) (by kernel_rfl) ?_
      rfl
  · rw [dec_f h1]
    conv => lhs; whnf
    refine Eq.trans (b := some (Fx.exit (2 : Nat), St.mk [((2 : Nat), AV.ptr (Nm.slot (2 : Nat)) (0 : Nat)), ((4 : Nat), AV.ptr (Nm.slot (14 : Nat)) (0 : Nat)), ((5 : Nat), AV.ptr (Nm.slot (5 : Nat)) (0 : Nat)), ((6 : Nat), AV.d (D.int IntKind.i64 n0)), ((7 : Nat), AV.d (D.int IntKind.i64 i0)), ((8 : Nat), AV.ptr (Nm.slot (8 : Nat)) (0 : Nat))] [(Nm.slot (2 : Nat), AObj.cells [AV.d (D.str []), AV.nilsl]), (Nm.slot (14 : Nat), AObj.cells [AV.d (D.list (bL mb)), AV.d (D.int IntKind.i64 e)]), (Nm.slot (5 : Nat), AObj.cells [AV.d (D.str id), AV.nilsl]), (Nm.slot (8 : Nat), AObj.cells [AV.d (D.int IntKind.i64 kd), AV.d (D.str nm), AV.d (D.int IntKind.i64 nv), AV.d (D.list al), AV.nilsl])])) (by kernel_rfl) ?_
    rfl
theorem m24FN (j : Nat) (L : Nat) (hL : L ≤ LB) (hj : 7 * L + 20000 < j) (id : List UInt8) (n0 i0 : Int) (kd : Int) (nm : List UInt8) (nv : Int) (al : List (List D)) (n : Nat) (hn16 : n ≤ 1000000) {lp : LP} (hlp : lp = lpOf Try.prog cfg (icall Try.prog cfg j) Try.f24.ntmps 24 j (([] : Hp).map (·.1))) (es : List (List D)) (q : Nat) (mb : List UInt8) (e : Int) (z : Int) (he : e ≠ 0 ∨ ¬ z < (n : Int)) (lf : Nat) (hlf : 0 < lf) (st : St)
    (hp : prune [] [2, 4, 5, 6, 7, 8, 9, 10] st = some ⟨[(2, .ptr (.slot 2) 0), (4, .ptr (.slot 14) 0), (5, .ptr (.slot 5) 0), (6, .d (.int .i64 n0)), (7, .d (.int .i64 i0)), (8, .ptr (.slot 8) 0), (9, .d (.int .i64 n)), (10, .d (.int .i64 z))], [(.slot 2, .cells [.d (.str []), .nilsl]), (.slot 14, .cells [.d (.list (bL mb)), .d (.int .i64 e)]), (.slot 5, .cells [.d (.str id), .nilsl]), (.slot 8, .cells [.d (.int .i64 kd), .d (.str nm), .d (.int .i64 nv), .d (.list al), .own (.slot 63) 0 q]), (.slot 63, .arr 71 2 0 es)]⟩) :
    loopK Try.prog cfg (icall Try.prog cfg j) lp Try.f24.ntmps 24 [] (bodyAt Try.f24 10) lf st (exitP [] (some [2, 4, 5, 6, 7, 8])) = some (.exit 2, ⟨[(2, .ptr (.slot 2) 0), (4, .ptr (.slot 14) 0), (5, .ptr (.slot 5) 0), (6, .d (.int .i64 n0)), (7, .d (.int .i64 i0)), (8, .ptr (.slot 8) 0)], [(.slot 2, .cells [.d (.str []), .nilsl]), (.slot 14, .cells [.d (.list (bL mb)), .d (.int .i64 e)]), (.slot 5, .cells [.d (.str id), .nilsl]), (.slot 8, .cells [.d (.int .i64 kd), .d (.str nm), .d (.int .i64 nv), .d (.list al), .own (.slot 63) 0 q]), (.slot 63, .arr 71 2 0 es)]⟩) := by
  obtain ⟨lf, rfl⟩ : ∃ n, lf = n + 1 := ⟨lf - 1, by omega⟩
  refine loop_step hp ?_
  conv => lhs; whnf
  refine iteK_dec (fun h1 => ?_) (fun h1 => ?_)
  · rw [dec_t h1]
    conv => lhs; whnf
    refine iteK_beq (fun h2 => ?_) (fun h2 => ?_)
    · obtain rfl : e = (0 : Int) := h2
      (exfalso; omega)
    · rw [beq_f h2]
      conv => lhs; whnf
      refine Eq.trans (b := some (Fx.exit (2 : Nat), St.mk [((2 : Nat), AV.ptr (Nm.slot (2 : Nat)) (0 : Nat)), ((4 : Nat), AV.ptr (Nm.slot (14 : Nat)) (0 : Nat)), ((5 : Nat), AV.ptr (Nm.slot (5 : Nat)) (0 : Nat)), ((6 : Nat), AV.d (D.int IntKind.i64 n0)), ((7 : Nat), AV.d (D.int IntKind.i64 i0)), ((8 : Nat), AV.ptr (Nm.slot (8 : Nat)) (0 : Nat))] [(Nm.slot (2 : Nat), AObj.cells [AV.d (D.str []), AV.nilsl]), (Nm.slot (14 : Nat), AObj.cells [AV.d (D.list (bL mb)), AV.d (D.int IntKind.i64 e)]), (Nm.slot (5 : Nat), AObj.cells [AV.d (D.str id), AV.nilsl]), (Nm.slot (8 : Nat), AObj.cells [AV.d (D.int IntKind.i64 kd), AV.d (D.str nm), AV.d (D.int IntKind.i64 nv), AV.d (D.list al), AV.own (Nm.slot (63 : Nat)) (nat_lit 0) q]), (Nm.slot (63 : Nat), AObj.arr (71 : Nat) (2 : Nat) (nat_lit 0) es)])) (by kernel_rfl) ?_
      rfl
  · rw [dec_f h1]
    conv => lhs; whnf
    refine Eq.trans (b := some (Fx.exit (2 : Nat), St.mk [((2 : Nat), AV.ptr (Nm.slot (2 : Nat)) (0 : Nat)), ((4 : Nat), AV.ptr (Nm.slot (14 : Nat)) (0 : Nat)), ((5 : Nat), AV.ptr (Nm.slot (5 : Nat)) (0 : Nat)), ((6 : Nat), AV.d (D.int IntKind.i64 n0)), ((7 : Nat), AV.d (D.int IntKind.i64 i0)), ((8 : Nat), AV.ptr (Nm.slot (8 : Nat)) (0 : Nat))] [(Nm.slot (2 : Nat), AObj.cells [AV.d (D.str []), AV.nilsl]), (Nm.slot (14 : Nat), AObj.cells [AV.d (D.list (bL mb)), AV.d (D.int IntKind.i64 e)]), (Nm.slot (5 : Nat), AObj.cells [AV.d (D.str id), AV.nilsl]), (Nm.slot (8 : Nat), AObj.cells [AV.d (D.int IntKind.i64 kd), AV.d (D.str nm), AV.d (D.int IntKind.i64 nv), AV.d (D.list al), AV.own (Nm.slot (63 : Nat)) (nat_lit 0) q]), (Nm.slot (63 : Nat), AObj.arr (71 : Nat) (2 : Nat) (nat_lit 0) es)])) (by kernel_rfl) ?_
    rfl
theorem m24LN (j : Nat) (L : Nat) (hL : L ≤ LB) (hj : 7 * L + 20000 < j) (id : List UInt8) (n0 i0 : Int) (kd : Int) (nm : List UInt8) (nv : Int) (al : List (List D)) (n : Nat) (hn16 : n ≤ 1000000) {lp : LP} (hlp : lp = lpOf Try.prog cfg (icall Try.prog cfg j) Try.f24.ntmps 24 j (([] : Hp).map (·.1))) :
    ∀ (m i : Nat) (z : Int) (s : Sg) (mb : List UInt8) (e : Int) (q : Nat) (es : List (List D)), n - i = m → i ≤ n → z = (i : Int) → Rl L mb s → s.2 = e → es.length = q → q ≤ 2000000 + i →
    ∃ mb', Rl L mb' (sFlows m s).2 ∧ ∀ (lf : Nat) (st : St), m + 1 < lf → prune [] [2, 4, 5, 6, 7, 8, 9, 10] st = some ⟨[(2, .ptr (.slot 2) 0), (4, .ptr (.slot 14) 0), (5, .ptr (.slot 5) 0), (6, .d (.int .i64 n0)), (7, .d (.int .i64 i0)), (8, .ptr (.slot 8) 0), (9, .d (.int .i64 n)), (10, .d (.int .i64 z))], [(.slot 2, .cells [.d (.str []), .nilsl]), (.slot 14, .cells [.d (.list (bL mb)), .d (.int .i64 e)]), (.slot 5, .cells [.d (.str id), .nilsl]), (.slot 8, .cells [.d (.int .i64 kd), .d (.str nm), .d (.int .i64 nv), .d (.list al), .own (.slot 63) 0 q]), (.slot 63, .arr 71 2 0 es)]⟩ →
    loopK Try.prog cfg (icall Try.prog cfg j) lp Try.f24.ntmps 24 [] (bodyAt Try.f24 10) lf st (exitP [] (some [2, 4, 5, 6, 7, 8])) = some (.exit 2, ⟨[(2, .ptr (.slot 2) 0), (4, .ptr (.slot 14) 0), (5, .ptr (.slot 5) 0), (6, .d (.int .i64 n0)), (7, .d (.int .i64 i0)), (8, .ptr (.slot 8) 0)], [(.slot 2, .cells [.d (.str []), .nilsl]), (.slot 14, .cells [.d (.list (bL mb')), .d (.int .i64 (sFlows m s).2.2)]), (.slot 5, .cells [.d (.str id), .nilsl]), (.slot 8, .cells [.d (.int .i64 kd), .d (.str nm), .d (.int .i64 nv), .d (.list al), .own (.slot 63) 0 (es ++ (sFlows m s).1.map FlowT.cells).length]), (.slot 63, .arr 71 2 0 (es ++ (sFlows m s).1.map FlowT.cells))]⟩) := by
  intro m
  have hmx : 1000001 ≤ maxLen := by decide
  induction m with
  | zero =>
    intro i z s mb e q es hi hle hz h he hl hb
    refine ⟨mb, h, fun lf st hlf hp => ?_⟩
    rw [m24FN j L hL hj id n0 i0 kd nm nv al n hn16 hlp es q mb e z (.inr (by omega)) lf (by omega) st hp]
    rw [sFlows, List.map_nil, List.append_nil, hl, he]
  | succ m ihm =>
    intro i z s mb e q es hi hle hz h he hl hb
    by_cases g0 : e ≠ 0
    · refine ⟨mb, by rw [sFlows_e _ (by omega)]; exact h, fun lf st hlf hp => ?_⟩
      rw [m24FN j L hL hj id n0 i0 kd nm nv al n hn16 hlp es q mb e z (.inl g0) lf (by omega) st hp]
      rw [sFlows_e _ (by omega), List.map_nil, List.append_nil, hl, he]
    · have g1 : s.2 = 0 := by omega
      obtain rfl : e = 0 := by omega
      rw [sFlows_1 _ g1]
      obtain ⟨a1, h1, c1⟩ := qUint hL 4096 (by omega) h
      obtain ⟨a2, h2, c2⟩ := qMaybe hL h1
      replace c1 := c1 j (by omega)
      replace c2 := c2 j (by omega)
      have hR : es.take q ++ [[D.int .i64 ((sN 4096 s).1 : Int), D.list (cellsL (sM (sN 4096 s).2).1)]] = es ++ [FlowT.cells (sFlow s).1] := by rw [List.take_of_length_le (by omega)]; rfl
      have hRl : (es ++ [FlowT.cells (sFlow s).1]).length = q + 1 := by rw [List.length_append, hl]; rfl
      obtain ⟨a3, h3, hih⟩ := ihm (i + 1) (IntKind.i64.wrap (z + 1)) (sFlow s).2 a2 _ (q + 1) (es ++ [FlowT.cells (sFlow s).1]) (by omega) (by omega) (wrap_up hz (by omega)) h2 rfl hRl (by omega)
      refine ⟨a3, h3, fun lf st hlf hp => ?_⟩
      have hA : es ++ ((sFlow s).1 :: (sFlows m (sFlow s).2).1).map FlowT.cells = (es ++ [FlowT.cells (sFlow s).1]) ++ (sFlows m (sFlow s).2).1.map FlowT.cells := by rw [List.append_assoc]; rfl
      rw [hA]
      rw [← hR] at hih ⊢
      have hend : z < (n : Int) := by omega
      rw [g1] at c1
      have hf2 : (sFlow s).2.2 = (sM (sN 4096 s).2).2.2 := rfl
      rw [hf2] at hih
      generalize sFlows m (sFlow s).2 = rr at *
      generalize sN 4096 s = r1 at *
      obtain ⟨v1, s1⟩ := r1
      generalize sM s1 = r2 at *
      obtain ⟨v2, s2⟩ := r2
      dsimp only at c1 c2 hih ⊢
      obtain ⟨lf, rfl⟩ : ∃ n, lf = n + 1 := ⟨lf - 1, by omega⟩
      refine loop_step hp ?_
      conv => lhs; whnf
      refine iteK_dec_t hend ?_
      conv => lhs; whnf
      refine iteK_dec_t hend ?_
      conv => lhs; whnf
      refine iteK_dec_t hend ?_
      conv => lhs; whnf
      refine iteK_dec_t hend ?_
      conv => lhs; whnf
      refine iteK_dec_t hend ?_
      conv => lhs; whnf
      refine iteK_dec_t hend ?_
      conv => lhs; whnf
      refine iteO_t (by kernel_rfl) ?_
      conv => lhs; whnf
      refine nextK_of c1 ?_
      conv => lhs; whnf
      refine nextK_of c2 ?_
      conv => lhs; whnf
      refine nextK_of (aop_app rfl rfl rfl rfl rfl rfl rfl rfl rfl rfl rfl rfl (lenF (by omega))) ?_
      conv => lhs; whnf
      refine iteO_t (by kernel_rfl) ?_
      conv => lhs; whnf
      refine Eq.trans (hih lf _ (by omega) rfl) ?_
      rfl
theorem m24SN (j : Nat) (L : Nat) (hL : L ≤ LB) (hj : 7 * L + 20000 < j) (id : List UInt8) (n0 i0 : Int) (kd : Int) (nm : List UInt8) (nv : Int) (al : List (List D)) (n : Nat) (hn16 : n ≤ 1000000) {lp : LP} (hlp : lp = lpOf Try.prog cfg (icall Try.prog cfg j) Try.f24.ntmps 24 j (([] : Hp).map (·.1))) (m : Nat) (hm : n = m + 1) (s : Sg) (mb : List UInt8) (h : Rl L mb s) (g1 : s.2 = 0) :
    ∃ mb', Rl L mb' (sFlows (m + 1) s).2 ∧ ∀ (lf : Nat) (st : St), m + 3 < lf → prune [] [2, 4, 5, 6, 7, 8, 9, 10] st = some ⟨[(2, .ptr (.slot 2) 0), (4, .ptr (.slot 14) 0), (5, .ptr (.slot 5) 0), (6, .d (.int .i64 n0)), (7, .d (.int .i64 i0)), (8, .ptr (.slot 8) 0), (9, .d (.int .i64 n)), (10, .d (.int .i64 0))], [(.slot 2, .cells [.d (.str []), .nilsl]), (.slot 14, .cells [.d (.list (bL mb)), .d (.int .i64 0)]), (.slot 5, .cells [.d (.str id), .nilsl]), (.slot 8, .cells [.d (.int .i64 kd), .d (.str nm), .d (.int .i64 nv), .d (.list al), .nilsl])]⟩ →
    loopK Try.prog cfg (icall Try.prog cfg j) lp Try.f24.ntmps 24 [] (bodyAt Try.f24 10) lf st (exitP [] (some [2, 4, 5, 6, 7, 8])) = some (.exit 2, ⟨[(2, .ptr (.slot 2) 0), (4, .ptr (.slot 14) 0), (5, .ptr (.slot 5) 0), (6, .d (.int .i64 n0)), (7, .d (.int .i64 i0)), (8, .ptr (.slot 8) 0)], [(.slot 2, .cells [.d (.str []), .nilsl]), (.slot 14, .cells [.d (.list (bL mb')), .d (.int .i64 (sFlows (m + 1) s).2.2)]), (.slot 5, .cells [.d (.str id), .nilsl]), (.slot 8, .cells [.d (.int .i64 kd), .d (.str nm), .d (.int .i64 nv), .d (.list al), .own (.slot 63) 0 ((sFlows (m + 1) s).1.map FlowT.cells).length]), (.slot 63, .arr 71 2 0 ((sFlows (m + 1) s).1.map FlowT.cells))]⟩) := by
  rw [sFlows_1 _ g1]
  obtain ⟨a1, h1, c1⟩ := qUint hL 4096 (by omega) h
  obtain ⟨a2, h2, c2⟩ := qMaybe hL h1
  replace c1 := c1 j (by omega)
  replace c2 := c2 j (by omega)
  obtain ⟨a3, h3, hih⟩ := m24LN j L hL hj id n0 i0 kd nm nv al n hn16 hlp m 1 1 (sFlow s).2 a2 _ 1 [FlowT.cells (sFlow s).1] (by omega) (by omega) rfl h2 rfl rfl (by omega)
  refine ⟨a3, h3, fun lf st hlf hp => ?_⟩
  have hend : (0 : Int) < (n : Int) := by omega
  rw [g1] at c1
  have hA : ((sFlow s).1 :: (sFlows m (sFlow s).2).1).map FlowT.cells = [FlowT.cells (sFlow s).1] ++ (sFlows m (sFlow s).2).1.map FlowT.cells := rfl
  rw [hA]
  have hfc : FlowT.cells (sFlow s).1 = [D.int .i64 ((sN 4096 s).1 : Int), D.list (cellsL (sM (sN 4096 s).2).1)] := rfl
  have hf2 : (sFlow s).2.2 = (sM (sN 4096 s).2).2.2 := rfl
  rw [hfc] at hih ⊢
  rw [hf2] at hih
  generalize sFlows m (sFlow s).2 = rr at *
  generalize sN 4096 s = r1 at *
  obtain ⟨v1, s1⟩ := r1
  generalize sM s1 = r2 at *
  obtain ⟨v2, s2⟩ := r2
  dsimp only at c1 c2 hih ⊢
  obtain ⟨lf, rfl⟩ : ∃ n, lf = n + 1 := ⟨lf - 1, by omega⟩
  refine loop_step hp ?_
  conv => lhs; whnf
  refine iteK_dec_t hend ?_
  conv => lhs; whnf
  refine iteK_dec_t hend ?_
  conv => lhs; whnf
  refine iteK_dec_t hend ?_
  conv => lhs; whnf
  refine iteK_dec_t hend ?_
  conv => lhs; whnf
  refine iteK_dec_t hend ?_
  conv => lhs; whnf
  refine iteK_dec_t hend ?_
  conv => lhs; whnf
  refine iteO_t (by kernel_rfl) ?_
  conv => lhs; whnf
  refine nextK_of c1 ?_
  conv => lhs; whnf
  refine nextK_of c2 ?_
  conv => lhs; whnf
  refine iteO_t (by kernel_rfl) ?_
  conv => lhs; whnf
  refine Eq.trans (hih lf _ (by omega) rfl) ?_
  rfl
theorem m24EO (j : Nat) (L : Nat) (hL : L ≤ LB) (hj : 7 * L + 20000 < j) (id : List UInt8) (l : Nat) (ps : List (List D)) (n0 i0 : Int) (kd : Int) (nm : List UInt8) (nv : Int) (al : List (List D)) (n : Nat) (hn16 : n ≤ 1000000) {lp : LP} (hlp : lp = lpOf Try.prog cfg (icall Try.prog cfg j) Try.f24.ntmps 24 j (([] : Hp).map (·.1))) (mb : List UInt8) (e : Int) (z : Int) (he : e ≠ 0 ∨ ¬ z < (n : Int)) (lf : Nat) (hlf : 0 < lf) (st : St)
    (hp : prune [] [2, 4, 5, 6, 7, 8, 9, 10] st = some ⟨[(2, .ptr (.slot 2) 0), (4, .ptr (.slot 14) 0), (5, .ptr (.slot 5) 0), (6, .d (.int .i64 n0)), (7, .d (.int .i64 i0)), (8, .ptr (.slot 8) 0), (9, .d (.int .i64 n)), (10, .d (.int .i64 z))], [(.slot 2, .cells [.d (.str []), .nilsl]), (.slot 14, .cells [.d (.list (bL mb)), .d (.int .i64 e)]), (.slot 5, .cells [.d (.str id), .own (.slot 69) 0 l]), (.slot 8, .cells [.d (.int .i64 kd), .d (.str nm), .d (.int .i64 nv), .d (.list al), .nilsl]), (.slot 69, .arr 57 5 0 ps)]⟩) :
    loopK Try.prog cfg (icall Try.prog cfg j) lp Try.f24.ntmps 24 [] (bodyAt Try.f24 10) lf st (exitP [] (some [2, 4, 5, 6, 7, 8])) = some (.exit 2, ⟨[(2, .ptr (.slot 2) 0), (4, .ptr (.slot 14) 0), (5, .ptr (.slot 5) 0), (6, .d (.int .i64 n0)), (7, .d (.int .i64 i0)), (8, .ptr (.slot 8) 0)], [(.slot 2, .cells [.d (.str []), .nilsl]), (.slot 14, .cells [.d (.list (bL mb)), .d (.int .i64 e)]), (.slot 5, .cells [.d (.str id), .own (.slot 69) 0 l]), (.slot 8, .cells [.d (.int .i64 kd), .d (.str nm), .d (.int .i64 nv), .d (.list al), .nilsl]), (.slot 69, .arr 57 5 0 ps)]⟩) := by
  obtain ⟨lf, rfl⟩ : ∃ n, lf = n + 1 := ⟨lf - 1, by omega⟩
  refine loop_step hp ?_
  conv => lhs; whnf
  refine iteK_dec (fun h1 => ?_) (fun h1 => ?_)
  · rw [dec_t h1]
    conv => lhs; whnf
    refine iteK_beq (fun h2 => ?_) (fun h2 => ?_)
    · obtain rfl : e = (0 : Int) := h2
      (exfalso; omega)
    · rw [beq_f h2]
      conv => lhs; whnf
      refine Eq.trans (b := some (Fx.exit (2 : Nat), St.mk [((2 : Nat), AV.ptr (Nm.slot (2 : Nat)) (0 : Nat)), ((4 : Nat), AV.ptr (Nm.slot (14 : Nat)) (0 : Nat)), ((5 : Nat), AV.ptr (Nm.slot (5 : Nat)) (0 : Nat)), ((6 : Nat), AV.d (D.int IntKind.i64 n0)), ((7 : Nat), AV.d (D.int IntKind.i64 i0)), ((8 : Nat), AV.ptr (Nm.slot (8 : Nat)) (0 : Nat))] [(Nm.slot (2 : Nat), AObj.cells [AV.d (D.str []), AV.nilsl]), (Nm.slot (14 : Nat), AObj.cells [AV.d (D.list (bL mb)), AV.d (D.int IntKind.i64 e)]), (Nm.slot (5 : Nat), AObj.cells [AV.d (D.str id), AV.own (Nm.slot (69 : Nat)) (nat_lit 0) l]), (Nm.slot (8 : Nat), AObj.cells [AV.d (D.int IntKind.i64 kd), AV.d (D.str nm), AV.d (D.int IntKind.i64 nv), AV.d (D.list al), AV.nilsl]), (Nm.slot (69 : Nat), AObj.arr (57 : Nat) (5 : Nat) (nat_lit 0) ps)])) (by kernel_rfl) ?_
      rfl
  · rw [dec_f h1]
    conv => lhs; whnf
    refine Eq.trans (b := some (Fx.exit (2 : Nat), St.mk [((2 : Nat), AV.ptr (Nm.slot (2 : Nat)) (0 : Nat)), ((4 : Nat), AV.ptr (Nm.slot (14 : Nat)) (0 : Nat)), ((5 : Nat), AV.ptr (Nm.slot (5 : Nat)) (0 : Nat)), ((6 : Nat), AV.d (D.int IntKind.i64 n0)), ((7 : Nat), AV.d (D.int IntKind.i64 i0)), ((8 : Nat), AV.ptr (Nm.slot (8 : Nat)) (0 : Nat))] [(Nm.slot (2 : Nat), AObj.cells [AV.d (D.str []), AV.nilsl]), (Nm.slot (14 : Nat), AObj.cells [AV.d (D.list (bL mb)), AV.d (D.int IntKind.i64 e)]), (Nm.slot (5 : Nat), AObj.cells [AV.d (D.str id), AV.own (Nm.slot (69 : Nat)) (nat_lit 0) l]), (Nm.slot (8 : Nat), AObj.cells [AV.d (D.int IntKind.i64 kd), AV.d (D.str nm), AV.d (D.int IntKind.i64 nv), AV.d (D.list al), AV.nilsl]), (Nm.slot (69 : Nat), AObj.arr (57 : Nat) (5 : Nat) (nat_lit 0) ps)])) (by kernel_rfl) ?_
    rfl
theorem m24FO (j : Nat) (L : Nat) (hL : L ≤ LB) (hj : 7 * L + 20000 < j) (id : List UInt8) (l : Nat) (ps : List (List D)) (n0 i0 : Int) (kd : Int) (nm : List UInt8) (nv : Int) (al : List (List D)) (n : Nat) (hn16 : n ≤ 1000000) {lp : LP} (hlp : lp = lpOf Try.prog cfg (icall Try.prog cfg j) Try.f24.ntmps 24 j (([] : Hp).map (·.1))) (es : List (List D)) (q : Nat) (mb : List UInt8) (e : Int) (z : Int) (he : e ≠ 0 ∨ ¬ z < (n : Int)) (lf : Nat) (hlf : 0 < lf) (st : St)
    (hp : prune [] [2, 4, 5, 6, 7, 8, 9, 10] st = some ⟨[(2, .ptr (.slot 2) 0), (4, .ptr (.slot 14) 0), (5, .ptr (.slot 5) 0), (6, .d (.int .i64 n0)), (7, .d (.int .i64 i0)), (8, .ptr (.slot 8) 0), (9, .d (.int .i64 n)), (10, .d (.int .i64 z))], [(.slot 2, .cells [.d (.str []), .nilsl]), (.slot 14, .cells [.d (.list (bL mb)), .d (.int .i64 e)]), (.slot 5, .cells [.d (.str id), .own (.slot 69) 0 l]), (.slot 8, .cells [.d (.int .i64 kd), .d (.str nm), .d (.int .i64 nv), .d (.list al), .own (.slot 63) 0 q]), (.slot 69, .arr 57 5 0 ps), (.slot 63, .arr 71 2 0 es)]⟩) :
    loopK Try.prog cfg (icall Try.prog cfg j) lp Try.f24.ntmps 24 [] (bodyAt Try.f24 10) lf st (exitP [] (some [2, 4, 5, 6, 7, 8])) = some (.exit 2, ⟨[(2, .ptr (.slot 2) 0), (4, .ptr (.slot 14) 0), (5, .ptr (.slot 5) 0), (6, .d (.int .i64 n0)), (7, .d (.int .i64 i0)), (8, .ptr (.slot 8) 0)], [(.slot 2, .cells [.d (.str []), .nilsl]), (.slot 14, .cells [.d (.list (bL mb)), .d (.int .i64 e)]), (.slot 5, .cells [.d (.str id), .own (.slot 69) 0 l]), (.slot 8, .cells [.d (.int .i64 kd), .d (.str nm), .d (.int .i64 nv), .d (.list al), .own (.slot 63) 0 q]), (.slot 69, .arr 57 5 0 ps), (.slot 63, .arr 71 2 0 es)]⟩) := by
  obtain ⟨lf, rfl⟩ : ∃ n, lf = n + 1 := ⟨lf - 1, by omega⟩
  refine loop_step hp ?_
  conv => lhs; whnf
  refine iteK_dec (fun h1 => ?_) (fun h1 => ?_)
  · rw [dec_t h1]
    conv => lhs; whnf
    refine iteK_beq (fun h2 => ?_) (fun h2 => ?_)
    · obtain rfl : e = (0 : Int) := h2
      (exfalso; omega)
    · rw [beq_f h2]
      conv => lhs; whnf
      refine Eq.trans (b := some (Fx.exit (2 : Nat), St.mk [((2 : Nat), AV.ptr (Nm.slot (2 : Nat)) (0 : Nat)), ((4 : Nat), AV.ptr (Nm.slot (14 : Nat)) (0 : Nat)), ((5 : Nat), AV.ptr (Nm.slot (5 : Nat)) (0 : Nat)), ((6 : Nat), AV.d (D.int IntKind.i64 n0)), ((7 : Nat), AV.d (D.int IntKind.i64 i0)), ((8 : Nat), AV.ptr (Nm.slot (8 : Nat)) (0 : Nat))] [(Nm.slot (2 : Nat), AObj.cells [AV.d (D.str []), AV.nilsl]), (Nm.slot (14 : Nat), AObj.cells [AV.d (D.list (bL mb)), AV.d (D.int IntKind.i64 e)]), (Nm.slot (5 : Nat), AObj.cells [AV.d (D.str id), AV.own (Nm.slot (69 : Nat)) (nat_lit 0) l]), (Nm.slot (8 : Nat), AObj.cells [AV.d (D.int IntKind.i64 kd), AV.d (D.str nm), AV.d (D.int IntKind.i64 nv), AV.d (D.list al), AV.own (Nm.slot (63 : Nat)) (nat_lit 0) q]), (Nm.slot (69 : Nat), AObj.arr (57 : Nat) (5 : Nat) (nat_lit 0) ps), (Nm.slot (63 : Nat), AObj.arr (71 : Nat) (2 : Nat) (nat_lit 0) es)])) (by kernel_rfl) ?_
      rfl
  · rw [dec_f h1]
    conv => lhs; whnf
    refine Eq.trans (b := some (Fx.exit (2 : Nat), St.mk [((2 : Nat), AV.ptr (Nm.slot (2 : Nat)) (0 : Nat)), ((4 : Nat), AV.ptr (Nm.slot (14 : Nat)) (0 : Nat)), ((5 : Nat), AV.ptr (Nm.slot (5 : Nat)) (0 : Nat)), ((6 : Nat), AV.d (D.int IntKind.i64 n0)), ((7 : Nat), AV.d (D.int IntKind.i64 i0)), ((8 : Nat), AV.ptr (Nm.slot (8 : Nat)) (0 : Nat))] [(Nm.slot (2 : Nat), AObj.cells [AV.d (D.str []), AV.nilsl]), (Nm.slot (14 : Nat), AObj.cells [AV.d (D.list (bL mb)), AV.d (D.int IntKind.i64 e)]), (Nm.slot (5 : Nat), AObj.cells [AV.d (D.str id), AV.own (Nm.slot (69 : Nat)) (nat_lit 0) l]), (Nm.slot (8 : Nat), AObj.cells [AV.d (D.int IntKind.i64 kd), AV.d (D.str nm), AV.d (D.int IntKind.i64 nv), AV.d (D.list al), AV.own (Nm.slot (63 : Nat)) (nat_lit 0) q]), (Nm.slot (69 : Nat), AObj.arr (57 : Nat) (5 : Nat) (nat_lit 0) ps), (Nm.slot (63 : Nat), AObj.arr (71 : Nat) (2 : Nat) (nat_lit 0) es)])) (by kernel_rfl) ?_
    rfl
theorem m24LO (j : Nat) (L : Nat) (hL : L ≤ LB) (hj : 7 * L + 20000 < j) (id : List UInt8) (l : Nat) (ps : List (List D)) (n0 i0 : Int) (kd : Int) (nm : List UInt8) (nv : Int) (al : List (List D)) (n : Nat) (hn16 : n ≤ 1000000) {lp : LP} (hlp : lp = lpOf Try.prog cfg (icall Try.prog cfg j) Try.f24.ntmps 24 j (([] : Hp).map (·.1))) :
    ∀ (m i : Nat) (z : Int) (s : Sg) (mb : List UInt8) (e : Int) (q : Nat) (es : List (List D)), n - i = m → i ≤ n → z = (i : Int) → Rl L mb s → s.2 = e → es.length = q → q ≤ 2000000 + i →
    ∃ mb', Rl L mb' (sFlows m s).2 ∧ ∀ (lf : Nat) (st : St), m + 1 < lf → prune [] [2, 4, 5, 6, 7, 8, 9, 10] st = some ⟨[(2, .ptr (.slot 2) 0), (4, .ptr (.slot 14) 0), (5, .ptr (.slot 5) 0), (6, .d (.int .i64 n0)), (7, .d (.int .i64 i0)), (8, .ptr (.slot 8) 0), (9, .d (.int .i64 n)), (10, .d (.int .i64 z))], [(.slot 2, .cells [.d (.str []), .nilsl]), (.slot 14, .cells [.d (.list (bL mb)), .d (.int .i64 e)]), (.slot 5, .cells [.d (.str id), .own (.slot 69) 0 l]), (.slot 8, .cells [.d (.int .i64 kd), .d (.str nm), .d (.int .i64 nv), .d (.list al), .own (.slot 63) 0 q]), (.slot 69, .arr 57 5 0 ps), (.slot 63, .arr 71 2 0 es)]⟩ →
    loopK Try.prog cfg (icall Try.prog cfg j) lp Try.f24.ntmps 24 [] (bodyAt Try.f24 10) lf st (exitP [] (some [2, 4, 5, 6, 7, 8])) = some (.exit 2, ⟨[(2, .ptr (.slot 2) 0), (4, .ptr (.slot 14) 0), (5, .ptr (.slot 5) 0), (6, .d (.int .i64 n0)), (7, .d (.int .i64 i0)), (8, .ptr (.slot 8) 0)], [(.slot 2, .cells [.d (.str []), .nilsl]), (.slot 14, .cells [.d (.list (bL mb')), .d (.int .i64 (sFlows m s).2.2)]), (.slot 5, .cells [.d (.str id), .own (.slot 69) 0 l]), (.slot 8, .cells [.d (.int .i64 kd), .d (.str nm), .d (.int .i64 nv), .d (.list al), .own (.slot 63) 0 (es ++ (sFlows m s).1.map FlowT.cells).length]), (.slot 69, .arr 57 5 0 ps), (.slot 63, .arr 71 2 0 (es ++ (sFlows m s).1.map FlowT.cells))]⟩) := by
  intro m
  have hmx : 1000001 ≤ maxLen := by decide
  induction m with
  | zero =>
    intro i z s mb e q es hi hle hz h he hl hb
    refine ⟨mb, h, fun lf st hlf hp => ?_⟩
    rw [m24FO j L hL hj id l ps n0 i0 kd nm nv al n hn16 hlp es q mb e z (.inr (by omega)) lf (by omega) st hp]
    rw [sFlows, List.map_nil, List.append_nil, hl, he]
  | succ m ihm =>
    intro i z s mb e q es hi hle hz h he hl hb
    by_cases g0 : e ≠ 0
    · refine ⟨mb, by rw [sFlows_e _ (by omega)]; exact h, fun lf st hlf hp => ?_⟩
      rw [m24FO j L hL hj id l ps n0 i0 kd nm nv al n hn16 hlp es q mb e z (.inl g0) lf (by omega) st hp]
      rw [sFlows_e _ (by omega), List.map_nil, List.append_nil, hl, he]
    · have g1 : s.2 = 0 := by omega
      obtain rfl : e = 0 := by omega
      rw [sFlows_1 _ g1]
      obtain ⟨a1, h1, c1⟩ := qUint hL 4096 (by omega) h
      obtain ⟨a2, h2, c2⟩ := qMaybe hL h1
      replace c1 := c1 j (by omega)
      replace c2 := c2 j (by omega)
      have hR : es.take q ++ [[D.int .i64 ((sN 4096 s).1 : Int), D.list (cellsL (sM (sN 4096 s).2).1)]] = es ++ [FlowT.cells (sFlow s).1] := by rw [List.take_of_length_le (by omega)]; rfl
      have hRl : (es ++ [FlowT.cells (sFlow s).1]).length = q + 1 := by rw [List.length_append, hl]; rfl
      obtain ⟨a3, h3, hih⟩ := ihm (i + 1) (IntKind.i64.wrap (z + 1)) (sFlow s).2 a2 _ (q + 1) (es ++ [FlowT.cells (sFlow s).1]) (by omega) (by omega) (wrap_up hz (by omega)) h2 rfl hRl (by omega)
      refine ⟨a3, h3, fun lf st hlf hp => ?_⟩
      have hA : es ++ ((sFlow s).1 :: (sFlows m (sFlow s).2).1).map FlowT.cells = (es ++ [FlowT.cells (sFlow s).1]) ++ (sFlows m (sFlow s).2).1.map FlowT.cells := by rw [List.append_assoc]; rfl
      rw [hA]
      rw [← hR] at hih ⊢
      have hend : z < (n : Int) := by omega
      rw [g1] at c1
      have hf2 : (sFlow s).2.2 = (sM (sN 4096 s).2).2.2 := rfl
      rw [hf2] at hih
      generalize sFlows m (sFlow s).2 = rr at *
      generalize sN 4096 s = r1 at *
      obtain ⟨v1, s1⟩ := r1
      generalize sM s1 = r2 at *
      obtain ⟨v2, s2⟩ := r2
      dsimp only at c1 c2 hih ⊢
      obtain ⟨lf, rfl⟩ : ∃ n, lf = n + 1 := ⟨lf - 1, by omega⟩
      refine loop_step hp ?_
      conv => lhs; whnf
      refine iteK_dec_t hend ?_
      conv => lhs; whnf
      refine iteK_dec_t hend ?_
      conv => lhs; whnf
      refine iteK_dec_t hend ?_
      conv => lhs; whnf
      refine iteK_dec_t hend ?_
      conv => lhs; whnf
      refine iteK_dec_t hend ?_
      conv => lhs; whnf
      refine iteK_dec_t hend ?_
      conv => lhs; whnf
      refine iteO_t (by kernel_rfl) ?_
      conv => lhs; whnf
      refine nextK_of c1 ?_
      conv => lhs; whnf
      refine nextK_of c2 ?_
      conv => lhs; whnf
      refine nextK_of (aop_app rfl rfl rfl rfl rfl rfl rfl rfl rfl rfl rfl rfl (lenF (by omega))) ?_
      conv => lhs; whnf
      refine iteO_t (by kernel_rfl) ?_
      conv => lhs; whnf
      refine Eq.trans (hih lf _ (by omega) rfl) ?_
      rfl
theorem m24SO (j : Nat) (L : Nat) (hL : L ≤ LB) (hj : 7 * L + 20000 < j) (id : List UInt8) (l : Nat) (ps : List (List D)) (n0 i0 : Int) (kd : Int) (nm : List UInt8) (nv : Int) (al : List (List D)) (n : Nat) (hn16 : n ≤ 1000000) {lp : LP} (hlp : lp = lpOf Try.prog cfg (icall Try.prog cfg j) Try.f24.ntmps 24 j (([] : Hp).map (·.1))) (m : Nat) (hm : n = m + 1) (s : Sg) (mb : List UInt8) (h : Rl L mb s) (g1 : s.2 = 0) :
    ∃ mb', Rl L mb' (sFlows (m + 1) s).2 ∧ ∀ (lf : Nat) (st : St), m + 3 < lf → prune [] [2, 4, 5, 6, 7, 8, 9, 10] st = some ⟨[(2, .ptr (.slot 2) 0), (4, .ptr (.slot 14) 0), (5, .ptr (.slot 5) 0), (6, .d (.int .i64 n0)), (7, .d (.int .i64 i0)), (8, .ptr (.slot 8) 0), (9, .d (.int .i64 n)), (10, .d (.int .i64 0))], [(.slot 2, .cells [.d (.str []), .nilsl]), (.slot 14, .cells [.d (.list (bL mb)), .d (.int .i64 0)]), (.slot 5, .cells [.d (.str id), .own (.slot 69) 0 l]), (.slot 8, .cells [.d (.int .i64 kd), .d (.str nm), .d (.int .i64 nv), .d (.list al), .nilsl]), (.slot 69, .arr 57 5 0 ps)]⟩ →
    loopK Try.prog cfg (icall Try.prog cfg j) lp Try.f24.ntmps 24 [] (bodyAt Try.f24 10) lf st (exitP [] (some [2, 4, 5, 6, 7, 8])) = some (.exit 2, ⟨[(2, .ptr (.slot 2) 0), (4, .ptr (.slot 14) 0), (5, .ptr (.slot 5) 0), (6, .d (.int .i64 n0)), (7, .d (.int .i64 i0)), (8, .ptr (.slot 8) 0)], [(.slot 2, .cells [.d (.str []), .nilsl]), (.slot 14, .cells [.d (.list (bL mb')), .d (.int .i64 (sFlows (m + 1) s).2.2)]), (.slot 5, .cells [.d (.str id), .own (.slot 69) 0 l]), (.slot 8, .cells [.d (.int .i64 kd), .d (.str nm), .d (.int .i64 nv), .d (.list al), .own (.slot 63) 0 ((sFlows (m + 1) s).1.map FlowT.cells).length]), (.slot 69, .arr 57 5 0 ps), (.slot 63, .arr 71 2 0 ((sFlows (m + 1) s).1.map FlowT.cells))]⟩) := by
  rw [sFlows_1 _ g1]
  obtain ⟨a1, h1, c1⟩ := qUint hL 4096 (by omega) h
  obtain ⟨a2, h2, c2⟩ := qMaybe hL h1
  replace c1 := c1 j (by omega)
  replace c2 := c2 j (by omega)
  obtain ⟨a3, h3, hih⟩ := m24LO j L hL hj id l ps n0 i0 kd nm nv al n hn16 hlp m 1 1 (sFlow s).2 a2 _ 1 [FlowT.cells (sFlow s).1] (by omega) (by omega) rfl h2 rfl rfl (by omega)
  refine ⟨a3, h3, fun lf st hlf hp => ?_⟩
  have hend : (0 : Int) < (n : Int) := by omega
  rw [g1] at c1
  have hA : ((sFlow s).1 :: (sFlows m (sFlow s).2).1).map FlowT.cells = [FlowT.cells (sFlow s).1] ++ (sFlows m (sFlow s).2).1.map FlowT.cells := rfl
  rw [hA]
  have hfc : FlowT.cells (sFlow s).1 = [D.int .i64 ((sN 4096 s).1 : Int), D.list (cellsL (sM (sN 4096 s).2).1)] := rfl
  have hf2 : (sFlow s).2.2 = (sM (sN 4096 s).2).2.2 := rfl
  rw [hfc] at hih ⊢
  rw [hf2] at hih
  generalize sFlows m (sFlow s).2 = rr at *
  generalize sN 4096 s = r1 at *
  obtain ⟨v1, s1⟩ := r1
  generalize sM s1 = r2 at *
  obtain ⟨v2, s2⟩ := r2
  dsimp only at c1 c2 hih ⊢
  obtain ⟨lf, rfl⟩ : ∃ n, lf = n + 1 := ⟨lf - 1, by omega⟩
  refine loop_step hp ?_
  conv => lhs; whnf
  refine iteK_dec_t hend ?_
  conv => lhs; whnf
  refine iteK_dec_t hend ?_
  conv => lhs; whnf
  refine iteK_dec_t hend ?_
  conv => lhs; whnf
  refine iteK_dec_t hend ?_
  conv => lhs; whnf
  refine iteK_dec_t hend ?_
  conv => lhs; whnf
  refine iteK_dec_t hend ?_
  conv => lhs; whnf
  refine iteO_t (by kernel_rfl) ?_
  conv => lhs; whnf
  refine nextK_of c1 ?_
  conv => lhs; whnf
  refine nextK_of c2 ?_
  conv => lhs; whnf
  refine iteO_t (by kernel_rfl) ?_
  conv => lhs; whnf
  refine Eq.trans (hih lf _ (by omega) rfl) ?_
  rfl
end Go.Rx11
end
section
open Go Go.Rx Go.Proofs Go.Rx11 Go.RxTree
set_option maxRecDepth 1000000
set_option maxHeartbeats 4000000
set_option linter.unusedVariables false
set_option linter.unusedSimpArgs false
namespace Go.Rx11
theorem o24EN (j : Nat) (L : Nat) (hL : L ≤ LB) (hj : 7 * L + 20000 < j) (id : List UInt8) (n : Nat) (hn16 : n ≤ 1000000) {lp : LP} (hlp : lp = lpOf Try.prog cfg (icall Try.prog cfg j) Try.f24.ntmps 24 j (([] : Hp).map (·.1))) (mb : List UInt8) (e : Int) (z : Int) (he : e ≠ 0 ∨ ¬ z < (n : Int)) (lf : Nat) (hlf : 0 < lf) (st : St)
    (hp : prune [] [2, 4, 5, 6, 7] st = some ⟨[(2, .ptr (.slot 2) 0), (4, .ptr (.slot 14) 0), (5, .ptr (.slot 5) 0), (6, .d (.int .i64 n)), (7, .d (.int .i64 z))], [(.slot 2, .cells [.d (.str []), .nilsl]), (.slot 14, .cells [.d (.list (bL mb)), .d (.int .i64 e)]), (.slot 5, .cells [.d (.str id), .nilsl])]⟩) :
    loopK Try.prog cfg (icall Try.prog cfg j) lp Try.f24.ntmps 24 [] (bodyAt Try.f24 5) lf st (exitP [] (some [2, 4, 5])) = some (.exit 0, ⟨[(2, .ptr (.slot 2) 0), (4, .ptr (.slot 14) 0), (5, .ptr (.slot 5) 0)], [(.slot 2, .cells [.d (.str []), .nilsl]), (.slot 14, .cells [.d (.list (bL mb)), .d (.int .i64 e)]), (.slot 5, .cells [.d (.str id), .nilsl])]⟩) := by
  obtain ⟨lf, rfl⟩ : ∃ n, lf = n + 1 := ⟨lf - 1, by omega⟩
  refine loop_step hp ?_
  conv => lhs; whnf
  refine iteK_dec (fun h1 => ?_) (fun h1 => ?_)
  · rw [dec_t h1]
    conv => lhs; whnf
    refine iteK_beq (fun h2 => ?_) (fun h2 => ?_)
    · obtain rfl : e = (0 : Int) := h2
      (exfalso; omega)
    · rw [beq_f h2]
      conv => lhs; whnf
      refine Eq.trans (b := some (Fx.exit (0 : Nat), St.mk [((2 : Nat), AV.ptr (Nm.slot (2 : Nat)) (0 : Nat)), ((4 : Nat), AV.ptr (Nm.slot (14 : Nat)) (0 : Nat)), ((5 : Nat), AV.ptr (Nm.slot (5 : Nat)) (0 : Nat))] [(Nm.slot (2 : Nat), AObj.cells [AV.d (D.str []), AV.nilsl]), (Nm.slot (14 : Nat), AObj.cells [AV.d (D.list (bL mb)), AV.d (D.int IntKind.i64 e)]), (Nm.slot (5 : Nat), AObj.cells [AV.d (D.str id), AV.nilsl])])) (by kernel_rfl) ?_
      rfl
  · rw [dec_f h1]
    conv => lhs; whnf
    refine Eq.trans (b := some (Fx.exit (0 : Nat), St.mk [((2 : Nat), AV.ptr (Nm.slot (2 : Nat)) (0 : Nat)), ((4 : Nat), AV.ptr (Nm.slot (14 : Nat)) (0 : Nat)), ((5 : Nat), AV.ptr (Nm.slot (5 : Nat)) (0 : Nat))] [(Nm.slot (2 : Nat), AObj.cells [AV.d (D.str []), AV.nilsl]), (Nm.slot (14 : Nat), AObj.cells [AV.d (D.list (bL mb)), AV.d (D.int IntKind.i64 e)]), (Nm.slot (5 : Nat), AObj.cells [AV.d (D.str id), AV.nilsl])])) (by kernel_rfl) ?_
    rfl
theorem o24RN (j : Nat) (L : Nat) (hL : L ≤ LB) (hj : 7 * L + 20000 < j) (id : List UInt8) (n : Nat) (hn16 : n ≤ 1000000) {lp : LP} (hlp : lp = lpOf Try.prog cfg (icall Try.prog cfg j) Try.f24.ntmps 24 j (([] : Hp).map (·.1))) (z : Int) (hend : z < (n : Int)) (s : Sg) (mb : List UInt8) (h : Rl L mb s) (g1 : s.2 = 0) (p : PlaceT) (hpp : p = (sPlace s).1) (e' : Int) (hee : e' = (sPlace s).2.2) :
    ∃ mb', Rl L mb' (sPlace s).2 ∧ ∀ (r : Option (Fx × St)) (lf : Nat) (st : St), (∀ st', prune [] [2, 4, 5, 6, 7] st' = some ⟨[(2, .ptr (.slot 2) 0), (4, .ptr (.slot 14) 0), (5, .ptr (.slot 5) 0), (6, .d (.int .i64 n)), (7, .d (.int .i64 (IntKind.i64.wrap (z + 1))))], [(.slot 2, .cells [.d (.str []), .nilsl]), (.slot 14, .cells [.d (.list (bL mb')), .d (.int .i64 e')]), (.slot 5, .cells [.d (.str id), .own (.slot 69) 0 1]), (.slot 69, .arr 57 5 0 [p.cells])]⟩ → loopK Try.prog cfg (icall Try.prog cfg j) lp Try.f24.ntmps 24 [] (bodyAt Try.f24 5) lf st' (exitP [] (some [2, 4, 5])) = r) →
    prune [] [2, 4, 5, 6, 7] st = some ⟨[(2, .ptr (.slot 2) 0), (4, .ptr (.slot 14) 0), (5, .ptr (.slot 5) 0), (6, .d (.int .i64 n)), (7, .d (.int .i64 z))], [(.slot 2, .cells [.d (.str []), .nilsl]), (.slot 14, .cells [.d (.list (bL mb)), .d (.int .i64 0)]), (.slot 5, .cells [.d (.str id), .nilsl])]⟩ → loopK Try.prog cfg (icall Try.prog cfg j) lp Try.f24.ntmps 24 [] (bodyAt Try.f24 5) (lf + 1) st (exitP [] (some [2, 4, 5])) = r := by
  have hP : sPlace s = (⟨(sO s).1, (sT (sO s).2).1, (sN 9 (sT (sO s).2).2).1, (sM (sN 9 (sT (sO s).2).2).2).1, (sFlows (sN 16 (sM (sN 9 (sT (sO s).2).2).2).2).1 (sN 16 (sM (sN 9 (sT (sO s).2).2).2).2).2).1⟩, (sFlows (sN 16 (sM (sN 9 (sT (sO s).2).2).2).2).1 (sN 16 (sM (sN 9 (sT (sO s).2).2).2).2).2).2) := rfl
  have hn5 := sN_most 16 (sM (sN 9 (sT (sO s).2).2).2).2
  obtain ⟨a1, h1, c1⟩ := qOne hL h
  obtain ⟨a2, h2, c2⟩ := qText hL h1
  obtain ⟨a3, h3, c3⟩ := qUint hL 9 (by omega) h2
  obtain ⟨a4, h4, c4⟩ := qMaybe hL h3
  obtain ⟨a5, h5, c5⟩ := qUint hL 16 (by omega) h4
  replace c1 := c1 j (by omega)
  replace c2 := c2 j (by omega)
  replace c3 := c3 j (by omega)
  replace c4 := c4 j (by omega)
  replace c5 := c5 j (by omega)
  rw [g1] at c1
  generalize sPlace s = pp at *
  subst hP
  generalize sO s = r1 at *
  obtain ⟨v1, b1, e1⟩ := r1
  dsimp only at *
  generalize sT (b1, e1) = r1 at *
  obtain ⟨v2, b2, e2⟩ := r1
  dsimp only at *
  generalize sN 9 (b2, e2) = r1 at *
  obtain ⟨v3, b3, e3⟩ := r1
  dsimp only at *
  generalize sM (b3, e3) = r1 at *
  obtain ⟨v4, b4, e4⟩ := r1
  dsimp only at *
  generalize sN 16 (b4, e4) = r1 at *
  obtain ⟨v5, b5, e5⟩ := r1
  dsimp only at *
  by_cases g0 : e5 ≠ 0 ∨ v5 = 0
  · have hf : sFlows v5 (b5, e5) = ([], b5, e5) := by
      rcases g0 with g | rfl
      · exact sFlows_e v5 g
      · rfl
    rw [hf] at hpp hee ⊢
    dsimp only at hpp hee
    subst hpp hee
    refine ⟨a5, h5, fun r lf st hih hp => ?_⟩
    try dsimp only at hih
    · refine loop_step hp ?_
      have hR : PlaceT.cells ⟨v1, v2, v3, v4, []⟩ = [D.int .i64 (v1 : Int), D.str v2, D.int .i64 (v3 : Int), D.list (cellsL v4), D.list []] := by rfl
      rw [hR] at hih
      conv => lhs; whnf
      refine iteK_dec_t hend ?_
      conv => lhs; whnf
      refine iteK_dec_t hend ?_
      conv => lhs; whnf
      refine iteK_dec_t hend ?_
      conv => lhs; whnf
      refine iteK_dec_t hend ?_
      conv => lhs; whnf
      refine iteK_dec_t hend ?_
      conv => lhs; whnf
      refine iteK_dec_t hend ?_
      conv => lhs; whnf
      refine nextK_of c1 ?_
      conv => lhs; whnf
      refine nextK_of c2 ?_
      conv => lhs; whnf
      refine nextK_of c3 ?_
      conv => lhs; whnf
      refine nextK_of c4 ?_
      conv => lhs; whnf
      refine nextK_of c5 ?_
      conv => lhs; whnf
      refine nextK_of (loop_at hlp (m24EN j L hL hj id n z v1 v2 v3 (cellsL v4) v5 (by omega) hlp a5 _ 0 (by omega) j (by omega) _ rfl)) ?_
      conv => lhs; whnf
      refine Eq.trans (hih _ rfl) ?_
      rfl
  · obtain ⟨m, rfl⟩ : ∃ m, v5 = m + 1 := ⟨v5 - 1, by omega⟩
    obtain rfl : e5 = 0 := by omega
    obtain ⟨a6, h6, hl6⟩ := m24SN j L hL hj id n z v1 v2 v3 (cellsL v4) (m + 1) (by omega) hlp m rfl (b5, 0) a5 h5 rfl
    replace hl6 := fun st => hl6 j st (by omega)
    generalize sFlows (m + 1) (b5, 0) = rr at *
    obtain ⟨fl, b6, e6⟩ := rr
    dsimp only at hl6 hpp hee ⊢
    subst hpp hee
    refine ⟨a6, h6, fun r lf st hih hp => ?_⟩
    · refine loop_step hp ?_
      have hR : PlaceT.cells ⟨v1, v2, v3, v4, fl⟩ = [D.int .i64 (v1 : Int), D.str v2, D.int .i64 (v3 : Int), D.list (cellsL v4), D.list ((fl.map FlowT.cells).take (fl.map FlowT.cells).length)] := by (try rw [List.take_length]); rfl
      rw [hR] at hih
      generalize fl.map FlowT.cells = R at *
      conv => lhs; whnf
      refine iteK_dec_t hend ?_
      conv => lhs; whnf
      refine iteK_dec_t hend ?_
      conv => lhs; whnf
      refine iteK_dec_t hend ?_
      conv => lhs; whnf
      refine iteK_dec_t hend ?_
      conv => lhs; whnf
      refine iteK_dec_t hend ?_
      conv => lhs; whnf
      refine iteK_dec_t hend ?_
      conv => lhs; whnf
      refine nextK_of c1 ?_
      conv => lhs; whnf
      refine nextK_of c2 ?_
      conv => lhs; whnf
      refine nextK_of c3 ?_
      conv => lhs; whnf
      refine nextK_of c4 ?_
      conv => lhs; whnf
      refine nextK_of c5 ?_
      conv => lhs; whnf
      refine nextK_of (loop_at hlp (hl6 _ rfl)) ?_
      conv => lhs; whnf
      refine Eq.trans (hih _ rfl) ?_
      rfl
theorem o24EO (j : Nat) (L : Nat) (hL : L ≤ LB) (hj : 7 * L + 20000 < j) (id : List UInt8) (n : Nat) (hn16 : n ≤ 1000000) {lp : LP} (hlp : lp = lpOf Try.prog cfg (icall Try.prog cfg j) Try.f24.ntmps 24 j (([] : Hp).map (·.1))) (l : Nat) (ps : List (List D)) (mb : List UInt8) (e : Int) (z : Int) (he : e ≠ 0 ∨ ¬ z < (n : Int)) (lf : Nat) (hlf : 0 < lf) (st : St)
    (hp : prune [] [2, 4, 5, 6, 7] st = some ⟨[(2, .ptr (.slot 2) 0), (4, .ptr (.slot 14) 0), (5, .ptr (.slot 5) 0), (6, .d (.int .i64 n)), (7, .d (.int .i64 z))], [(.slot 2, .cells [.d (.str []), .nilsl]), (.slot 14, .cells [.d (.list (bL mb)), .d (.int .i64 e)]), (.slot 5, .cells [.d (.str id), .own (.slot 69) 0 l]), (.slot 69, .arr 57 5 0 ps)]⟩) :
    loopK Try.prog cfg (icall Try.prog cfg j) lp Try.f24.ntmps 24 [] (bodyAt Try.f24 5) lf st (exitP [] (some [2, 4, 5])) = some (.exit 0, ⟨[(2, .ptr (.slot 2) 0), (4, .ptr (.slot 14) 0), (5, .ptr (.slot 5) 0)], [(.slot 2, .cells [.d (.str []), .nilsl]), (.slot 14, .cells [.d (.list (bL mb)), .d (.int .i64 e)]), (.slot 5, .cells [.d (.str id), .own (.slot 69) 0 l]), (.slot 69, .arr 57 5 0 ps)]⟩) := by
  obtain ⟨lf, rfl⟩ : ∃ n, lf = n + 1 := ⟨lf - 1, by omega⟩
  refine loop_step hp ?_
  conv => lhs; whnf
  refine iteK_dec (fun h1 => ?_) (fun h1 => ?_)
  · rw [dec_t h1]
    conv => lhs; whnf
    refine iteK_beq (fun h2 => ?_) (fun h2 => ?_)
    · obtain rfl : e = (0 : Int) := h2
      (exfalso; omega)
    · rw [beq_f h2]
      conv => lhs; whnf
      refine Eq.trans (b := some (Fx.exit (0 : Nat), St.mk [((2 : Nat), AV.ptr (Nm.slot (2 : Nat)) (0 : Nat)), ((4 : Nat), AV.ptr (Nm.slot (14 : Nat)) (0 : Nat)), ((5 : Nat), AV.ptr (Nm.slot (5 : Nat)) (0 : Nat))] [(Nm.slot (2 : Nat), AObj.cells [AV.d (D.str []), AV.nilsl]), (Nm.slot (14 : Nat), AObj.cells [AV.d (D.list (bL mb)), AV.d (D.int IntKind.i64 e)]), (Nm.slot (5 : Nat), AObj.cells [AV.d (D.str id), AV.own (Nm.slot (69 : Nat)) (nat_lit 0) l]), (Nm.slot (69 : Nat), AObj.arr (57 : Nat) (5 : Nat) (nat_lit 0) ps)])) (by kernel_rfl) ?_
      rfl
  · rw [dec_f h1]
    conv => lhs; whnf
    refine Eq.trans (b := some (Fx.exit (0 : Nat), St.mk [((2 : Nat), AV.ptr (Nm.slot (2 : Nat)) (0 : Nat)), ((4 : Nat), AV.ptr (Nm.slot (14 : Nat)) (0 : Nat)), ((5 : Nat), AV.ptr (Nm.slot (5 : Nat)) (0 : Nat))] [(Nm.slot (2 : Nat), AObj.cells [AV.d (D.str []), AV.nilsl]), (Nm.slot (14 : Nat), AObj.cells [AV.d (D.list (bL mb)), AV.d (D.int IntKind.i64 e)]), (Nm.slot (5 : Nat), AObj.cells [AV.d (D.str id), AV.own (Nm.slot (69 : Nat)) (nat_lit 0) l]), (Nm.slot (69 : Nat), AObj.arr (57 : Nat) (5 : Nat) (nat_lit 0) ps)])) (by kernel_rfl) ?_
    rfl
theorem o24RO (j : Nat) (L : Nat) (hL : L ≤ LB) (hj : 7 * L + 20000 < j) (id : List UInt8) (n : Nat) (hn16 : n ≤ 1000000) {lp : LP} (hlp : lp = lpOf Try.prog cfg (icall Try.prog cfg j) Try.f24.ntmps 24 j (([] : Hp).map (·.1))) (l : Nat) (ps : List (List D)) (z : Int) (hend : z < (n : Int)) (s : Sg) (mb : List UInt8) (h : Rl L mb s) (g1 : s.2 = 0) (hl : ps.length = l) (hb : l ≤ 4000000) (p : PlaceT) (hpp : p = (sPlace s).1) (e' : Int) (hee : e' = (sPlace s).2.2) :
    ∃ mb', Rl L mb' (sPlace s).2 ∧ ∀ (r : Option (Fx × St)) (lf : Nat) (st : St), (∀ st', prune [] [2, 4, 5, 6, 7] st' = some ⟨[(2, .ptr (.slot 2) 0), (4, .ptr (.slot 14) 0), (5, .ptr (.slot 5) 0), (6, .d (.int .i64 n)), (7, .d (.int .i64 (IntKind.i64.wrap (z + 1))))], [(.slot 2, .cells [.d (.str []), .nilsl]), (.slot 14, .cells [.d (.list (bL mb')), .d (.int .i64 e')]), (.slot 5, .cells [.d (.str id), .own (.slot 69) 0 (l + 1)]), (.slot 69, .arr 57 5 0 (ps ++ [p.cells]))]⟩ → loopK Try.prog cfg (icall Try.prog cfg j) lp Try.f24.ntmps 24 [] (bodyAt Try.f24 5) lf st' (exitP [] (some [2, 4, 5])) = r) →
    prune [] [2, 4, 5, 6, 7] st = some ⟨[(2, .ptr (.slot 2) 0), (4, .ptr (.slot 14) 0), (5, .ptr (.slot 5) 0), (6, .d (.int .i64 n)), (7, .d (.int .i64 z))], [(.slot 2, .cells [.d (.str []), .nilsl]), (.slot 14, .cells [.d (.list (bL mb)), .d (.int .i64 0)]), (.slot 5, .cells [.d (.str id), .own (.slot 69) 0 l]), (.slot 69, .arr 57 5 0 ps)]⟩ → loopK Try.prog cfg (icall Try.prog cfg j) lp Try.f24.ntmps 24 [] (bodyAt Try.f24 5) (lf + 1) st (exitP [] (some [2, 4, 5])) = r := by
  have hP : sPlace s = (⟨(sO s).1, (sT (sO s).2).1, (sN 9 (sT (sO s).2).2).1, (sM (sN 9 (sT (sO s).2).2).2).1, (sFlows (sN 16 (sM (sN 9 (sT (sO s).2).2).2).2).1 (sN 16 (sM (sN 9 (sT (sO s).2).2).2).2).2).1⟩, (sFlows (sN 16 (sM (sN 9 (sT (sO s).2).2).2).2).1 (sN 16 (sM (sN 9 (sT (sO s).2).2).2).2).2).2) := rfl
  have hn5 := sN_most 16 (sM (sN 9 (sT (sO s).2).2).2).2
  obtain ⟨a1, h1, c1⟩ := qOne hL h
  obtain ⟨a2, h2, c2⟩ := qText hL h1
  obtain ⟨a3, h3, c3⟩ := qUint hL 9 (by omega) h2
  obtain ⟨a4, h4, c4⟩ := qMaybe hL h3
  obtain ⟨a5, h5, c5⟩ := qUint hL 16 (by omega) h4
  replace c1 := c1 j (by omega)
  replace c2 := c2 j (by omega)
  replace c3 := c3 j (by omega)
  replace c4 := c4 j (by omega)
  replace c5 := c5 j (by omega)
  rw [g1] at c1
  generalize sPlace s = pp at *
  subst hP
  generalize sO s = r1 at *
  obtain ⟨v1, b1, e1⟩ := r1
  dsimp only at *
  generalize sT (b1, e1) = r1 at *
  obtain ⟨v2, b2, e2⟩ := r1
  dsimp only at *
  generalize sN 9 (b2, e2) = r1 at *
  obtain ⟨v3, b3, e3⟩ := r1
  dsimp only at *
  generalize sM (b3, e3) = r1 at *
  obtain ⟨v4, b4, e4⟩ := r1
  dsimp only at *
  generalize sN 16 (b4, e4) = r1 at *
  obtain ⟨v5, b5, e5⟩ := r1
  dsimp only at *
  by_cases g0 : e5 ≠ 0 ∨ v5 = 0
  · have hf : sFlows v5 (b5, e5) = ([], b5, e5) := by
      rcases g0 with g | rfl
      · exact sFlows_e v5 g
      · rfl
    rw [hf] at hpp hee ⊢
    dsimp only at hpp hee
    subst hpp hee
    refine ⟨a5, h5, fun r lf st hih hp => ?_⟩
    try dsimp only at hih
    · refine loop_step hp ?_
      have hR : ps.take l ++ [[D.int .i64 (v1 : Int), D.str v2, D.int .i64 (v3 : Int), D.list (cellsL v4), D.list []]] = ps ++ [PlaceT.cells ⟨v1, v2, v3, v4, []⟩] := by rw [List.take_of_length_le (by omega)]; rfl
      rw [← hR] at hih
      conv => lhs; whnf
      refine iteK_dec_t hend ?_
      conv => lhs; whnf
      refine iteK_dec_t hend ?_
      conv => lhs; whnf
      refine iteK_dec_t hend ?_
      conv => lhs; whnf
      refine iteK_dec_t hend ?_
      conv => lhs; whnf
      refine iteK_dec_t hend ?_
      conv => lhs; whnf
      refine iteK_dec_t hend ?_
      conv => lhs; whnf
      refine nextK_of c1 ?_
      conv => lhs; whnf
      refine nextK_of c2 ?_
      conv => lhs; whnf
      refine nextK_of c3 ?_
      conv => lhs; whnf
      refine nextK_of c4 ?_
      conv => lhs; whnf
      refine nextK_of c5 ?_
      conv => lhs; whnf
      refine nextK_of (loop_at hlp (m24EO j L hL hj id l ps n z v1 v2 v3 (cellsL v4) v5 (by omega) hlp a5 _ 0 (by omega) j (by omega) _ rfl)) ?_
      conv => lhs; whnf
      refine nextK_of (aop_app rfl rfl rfl rfl rfl rfl rfl rfl rfl rfl rfl rfl (lenP (by omega))) ?_
      conv => lhs; whnf
      refine Eq.trans (hih _ rfl) ?_
      rfl
  · obtain ⟨m, rfl⟩ : ∃ m, v5 = m + 1 := ⟨v5 - 1, by omega⟩
    obtain rfl : e5 = 0 := by omega
    obtain ⟨a6, h6, hl6⟩ := m24SO j L hL hj id l ps n z v1 v2 v3 (cellsL v4) (m + 1) (by omega) hlp m rfl (b5, 0) a5 h5 rfl
    replace hl6 := fun st => hl6 j st (by omega)
    generalize sFlows (m + 1) (b5, 0) = rr at *
    obtain ⟨fl, b6, e6⟩ := rr
    dsimp only at hl6 hpp hee ⊢
    subst hpp hee
    refine ⟨a6, h6, fun r lf st hih hp => ?_⟩
    · refine loop_step hp ?_
      have hR : ps.take l ++ [[D.int .i64 (v1 : Int), D.str v2, D.int .i64 (v3 : Int), D.list (cellsL v4), D.list ((fl.map FlowT.cells).take (fl.map FlowT.cells).length)]] = ps ++ [PlaceT.cells ⟨v1, v2, v3, v4, fl⟩] := by rw [List.take_of_length_le (by omega)]; (try rw [List.take_length]); rfl
      rw [← hR] at hih
      generalize fl.map FlowT.cells = R at *
      conv => lhs; whnf
      refine iteK_dec_t hend ?_
      conv => lhs; whnf
      refine iteK_dec_t hend ?_
      conv => lhs; whnf
      refine iteK_dec_t hend ?_
      conv => lhs; whnf
      refine iteK_dec_t hend ?_
      conv => lhs; whnf
      refine iteK_dec_t hend ?_
      conv => lhs; whnf
      refine iteK_dec_t hend ?_
      conv => lhs; whnf
      refine nextK_of c1 ?_
      conv => lhs; whnf
      refine nextK_of c2 ?_
      conv => lhs; whnf
      refine nextK_of c3 ?_
      conv => lhs; whnf
      refine nextK_of c4 ?_
      conv => lhs; whnf
      refine nextK_of c5 ?_
      conv => lhs; whnf
      refine nextK_of (loop_at hlp (hl6 _ rfl)) ?_
      conv => lhs; whnf
      refine nextK_of (aop_app rfl rfl rfl rfl rfl rfl rfl rfl rfl rfl rfl rfl (lenP (by omega))) ?_
      conv => lhs; whnf
      refine Eq.trans (hih _ rfl) ?_
      rfl
theorem o24L (j : Nat) (L : Nat) (hL : L ≤ LB) (hj : 7 * L + 20000 < j) (id : List UInt8) (n : Nat) (hn16 : n ≤ 1000000) {lp : LP} (hlp : lp = lpOf Try.prog cfg (icall Try.prog cfg j) Try.f24.ntmps 24 j (([] : Hp).map (·.1))) :
    ∀ (m i : Nat) (z : Int) (s : Sg) (mb : List UInt8) (e : Int) (l : Nat) (ps : List (List D)), n - i = m → i ≤ n → z = (i : Int) → Rl L mb s → s.2 = e → ps.length = l → l ≤ 2000000 + i →
    ∃ mb', Rl L mb' (sPlaces m s).2 ∧ ∀ (lf : Nat) (st : St), m + 1 < lf → prune [] [2, 4, 5, 6, 7] st = some ⟨[(2, .ptr (.slot 2) 0), (4, .ptr (.slot 14) 0), (5, .ptr (.slot 5) 0), (6, .d (.int .i64 n)), (7, .d (.int .i64 z))], [(.slot 2, .cells [.d (.str []), .nilsl]), (.slot 14, .cells [.d (.list (bL mb)), .d (.int .i64 e)]), (.slot 5, .cells [.d (.str id), .own (.slot 69) 0 l]), (.slot 69, .arr 57 5 0 ps)]⟩ →
    loopK Try.prog cfg (icall Try.prog cfg j) lp Try.f24.ntmps 24 [] (bodyAt Try.f24 5) lf st (exitP [] (some [2, 4, 5])) = some (.exit 0, ⟨[(2, .ptr (.slot 2) 0), (4, .ptr (.slot 14) 0), (5, .ptr (.slot 5) 0)], [(.slot 2, .cells [.d (.str []), .nilsl]), (.slot 14, .cells [.d (.list (bL mb')), .d (.int .i64 (sPlaces m s).2.2)]), (.slot 5, .cells [.d (.str id), .own (.slot 69) 0 (ps ++ (sPlaces m s).1.map PlaceT.cells).length]), (.slot 69, .arr 57 5 0 (ps ++ (sPlaces m s).1.map PlaceT.cells))]⟩) := by
  intro m
  have hmx : 1000001 ≤ maxLen := by decide
  induction m with
  | zero =>
    intro i z s mb e l ps hi hle hz h he hl hb
    refine ⟨mb, h, fun lf st hlf hp => ?_⟩
    rw [o24EO j L hL hj id n hn16 hlp l ps mb e z (.inr (by omega)) lf (by omega) st hp]
    rw [sPlaces, List.map_nil, List.append_nil, hl, he]
  | succ m ihm =>
    intro i z s mb e l ps hi hle hz h he hl hb
    by_cases g0 : e ≠ 0
    · refine ⟨mb, by rw [sPlaces_e _ (by omega)]; exact h, fun lf st hlf hp => ?_⟩
      rw [o24EO j L hL hj id n hn16 hlp l ps mb e z (.inl g0) lf (by omega) st hp]
      rw [sPlaces_e _ (by omega), List.map_nil, List.append_nil, hl, he]
    · have g1 : s.2 = 0 := by omega
      obtain rfl : e = 0 := by omega
      rw [sPlaces_1 _ g1]
      obtain ⟨a1, h1, hr⟩ := o24RO j L hL hj id n hn16 hlp l ps z (by omega) s mb h g1 hl (by omega) _ rfl _ rfl
      have hRl : (ps ++ [(sPlace s).1.cells]).length = l + 1 := by rw [List.length_append, hl]; rfl
      obtain ⟨a3, h3, hih⟩ := ihm (i + 1) (IntKind.i64.wrap (z + 1)) (sPlace s).2 a1 _ (l + 1) (ps ++ [(sPlace s).1.cells]) (by omega) (by omega) (wrap_up hz (by omega)) h1 rfl hRl (by omega)
      refine ⟨a3, h3, fun lf st hlf hp => ?_⟩
      have hA : ps ++ ((sPlace s).1 :: (sPlaces m (sPlace s).2).1).map PlaceT.cells = (ps ++ [(sPlace s).1.cells]) ++ (sPlaces m (sPlace s).2).1.map PlaceT.cells := by rw [List.append_assoc]; rfl
      rw [hA]
      obtain ⟨lf, rfl⟩ : ∃ n, lf = n + 1 := ⟨lf - 1, by omega⟩
      exact hr _ lf st (fun st' hp' => hih lf st' (by omega) hp') hp
theorem o24S (j : Nat) (L : Nat) (hL : L ≤ LB) (hj : 7 * L + 20000 < j) (id : List UInt8) (n : Nat) (hn16 : n ≤ 1000000) {lp : LP} (hlp : lp = lpOf Try.prog cfg (icall Try.prog cfg j) Try.f24.ntmps 24 j (([] : Hp).map (·.1))) (m : Nat) (hm : n = m + 1) (s : Sg) (mb : List UInt8) (h : Rl L mb s) (g1 : s.2 = 0) :
    ∃ mb', Rl L mb' (sPlaces (m + 1) s).2 ∧ ∀ (lf : Nat) (st : St), m + 3 < lf → prune [] [2, 4, 5, 6, 7] st = some ⟨[(2, .ptr (.slot 2) 0), (4, .ptr (.slot 14) 0), (5, .ptr (.slot 5) 0), (6, .d (.int .i64 n)), (7, .d (.int .i64 0))], [(.slot 2, .cells [.d (.str []), .nilsl]), (.slot 14, .cells [.d (.list (bL mb)), .d (.int .i64 0)]), (.slot 5, .cells [.d (.str id), .nilsl])]⟩ →
    loopK Try.prog cfg (icall Try.prog cfg j) lp Try.f24.ntmps 24 [] (bodyAt Try.f24 5) lf st (exitP [] (some [2, 4, 5])) = some (.exit 0, ⟨[(2, .ptr (.slot 2) 0), (4, .ptr (.slot 14) 0), (5, .ptr (.slot 5) 0)], [(.slot 2, .cells [.d (.str []), .nilsl]), (.slot 14, .cells [.d (.list (bL mb')), .d (.int .i64 (sPlaces (m + 1) s).2.2)]), (.slot 5, .cells [.d (.str id), .own (.slot 69) 0 ((sPlaces (m + 1) s).1.map PlaceT.cells).length]), (.slot 69, .arr 57 5 0 ((sPlaces (m + 1) s).1.map PlaceT.cells))]⟩) := by
  rw [sPlaces_1 _ g1]
  obtain ⟨a1, h1, hr⟩ := o24RN j L hL hj id n hn16 hlp 0 (by omega) s mb h g1 _ rfl _ rfl
  obtain ⟨a3, h3, hih⟩ := o24L j L hL hj id n hn16 hlp m 1 (IntKind.i64.wrap (0 + 1)) (sPlace s).2 a1 _ 1 [(sPlace s).1.cells] (by omega) (by omega) (by decide) h1 rfl rfl (by omega)
  refine ⟨a3, h3, fun lf st hlf hp => ?_⟩
  have hA : ((sPlace s).1 :: (sPlaces m (sPlace s).2).1).map PlaceT.cells = [(sPlace s).1.cells] ++ (sPlaces m (sPlace s).2).1.map PlaceT.cells := rfl
  rw [hA]
  obtain ⟨lf, rfl⟩ : ∃ n, lf = n + 1 := ⟨lf - 1, by omega⟩
  exact hr _ lf st (fun st' hp' => hih lf st' (by omega) hp') hp
end Go.Rx11
end
section
open Go Go.Rx Go.Proofs Go.Rx11 Go.RxTree
set_option maxRecDepth 1000000
set_option maxHeartbeats 4000000
set_option linter.unusedVariables false
set_option linter.unusedSimpArgs false
namespace Go.Rx11
theorem read24 (b : List UInt8) (hb : b.length ≤ LB) (k : Nat) (hk : 7 * b.length + (sDef b).wt + 30000 < k) : icall Try.prog cfg k 24 [.d (.list (bL b))] [] = some (.ret (.tuple [(readD b).1.av, .d (.int .i64 (readD b).2)]), []) := by
  obtain ⟨k, rfl⟩ : ∃ j, k = j + 1 := ⟨k - 1, by omega⟩
  obtain ⟨o1, o2⟩ := sDef_ok b hb
  have cd := check12 (sDef b) o2 o1 k (by omega)
  obtain ⟨a1, h1, c1⟩ := qText hb (s := (b, 0)) (mb := b) ⟨Nat.le_refl _, Nat.le_refl _, fun _ => rfl⟩
  obtain ⟨a2, h2, c2⟩ := qUint hb 4096 (by omega) h1
  replace c1 := c1 k (by omega)
  replace c2 := c2 k (by omega)
  have hn := sN_most 4096 (sT (b, 0)).2
  have hbl := bL_len b
  have x1 := @readD_e b
  have x2 := @readD_3 b
  have x3 := @readD_c b
  have x4 := @readD_0 b
  generalize readD b = rd at *
  replace hk : 7 * b.length + 29000 < k := by omega
  unfold sDef sD3 sD2 sD1 at *
  generalize sT (b, 0) = r1 at *
  obtain ⟨v1, b1, e1⟩ := r1
  dsimp only at c1 c2 h1 h2 cd hn x1 x2 x3 x4
  generalize sN 4096 (b1, e1) = r2 at *
  obtain ⟨n, b2, e2⟩ := r2
  dsimp only at c1 c2 h1 h2 cd hn x1 x2 x3 x4
  obtain ⟨lp, hlp⟩ : ∃ lp, lp = lpOf Try.prog cfg (icall Try.prog cfg k) Try.f24.ntmps 24 k (([] : Hp).map (·.1)) := ⟨_, rfl⟩
  by_cases g0 : e2 ≠ 0 ∨ n = 0
  · have hf : sPlaces n (b2, e2) = ([], b2, e2) := by
      rcases g0 with g | rfl
      · exact sPlaces_e n g
      · rfl
    rw [hf] at cd x1 x2 x3 x4
    dsimp only at cd x1 x2 x3 x4
    have hl := o24EN k b.length hb (by omega) v1 n (by omega) hlp a2 e2 0 (by omega) k (by omega)
    generalize hec : checkD ⟨v1, []⟩ = ec at *
    obtain ⟨q1, q2, q3⟩ := h2
    dsimp only at q2 q3
    by_cases ge : e2 = 0
    · subst ge
      replace q3 := q3 rfl
      subst q3
      have hlen := bL_len a2
      by_cases gl : 0 < a2.length
      · obtain rfl := x2 rfl gl
        rw [icall_body rfl Try.func24]
        rw [← hlp]
        conv => lhs; whnf
        refine nextK_of c1 ?_
        conv => lhs; whnf
        refine nextK_of c2 ?_
        conv => lhs; whnf
        refine nextK_of (loop_at hlp (hl _ rfl)) ?_
        conv => lhs; whnf
        refine iteK_dec (fun h1 => ?_) (fun h1 => ?_)
        · rw [dec_t h1]
          conv => lhs; whnf
          refine iteO_t (by kernel_rfl) ?_
          conv => lhs; whnf
          refine iteO_t (by kernel_rfl) ?_
          conv => lhs; whnf
          refine Eq.trans (b := some (Res.ret (AV.tuple [AV.agg [AV.d (D.str []), AV.d (D.list [])], AV.d (D.int IntKind.i64 (3 : Int))]), [])) (by kernel_rfl) ?_
          rfl
        · rw [dec_f h1]
          (exfalso; omega)
      · by_cases gc : ec = 0
        · obtain rfl := x4 rfl gl gc
          subst gc
          rw [icall_body rfl Try.func24]
          rw [← hlp]
          conv => lhs; whnf
          refine nextK_of c1 ?_
          conv => lhs; whnf
          refine nextK_of c2 ?_
          conv => lhs; whnf
          refine nextK_of (loop_at hlp (hl _ rfl)) ?_
          conv => lhs; whnf
          refine iteK_dec (fun h1 => ?_) (fun h1 => ?_)
          · rw [dec_t h1]
            (exfalso; omega)
          · rw [dec_f h1]
            conv => lhs; whnf
            refine nextK_of cd ?_
            conv => lhs; whnf
            refine Eq.trans (b := some (Res.ret (AV.tuple [AV.agg [AV.d (D.str v1), AV.d (D.list [])], AV.d (D.int IntKind.i64 (0 : Int))]), [])) (by kernel_rfl) ?_
            rfl
        · obtain rfl := x3 rfl gl gc
          rw [icall_body rfl Try.func24]
          rw [← hlp]
          conv => lhs; whnf
          refine nextK_of c1 ?_
          conv => lhs; whnf
          refine nextK_of c2 ?_
          conv => lhs; whnf
          refine nextK_of (loop_at hlp (hl _ rfl)) ?_
          conv => lhs; whnf
          refine iteK_dec (fun h1 => ?_) (fun h1 => ?_)
          · rw [dec_t h1]
            (exfalso; omega)
          · rw [dec_f h1]
            conv => lhs; whnf
            refine nextK_of cd ?_
            conv => lhs; whnf
            refine iteK_bne_t gc ?_
            conv => lhs; whnf
            refine Eq.trans (b := some (Res.ret (AV.tuple [AV.agg [AV.d (D.str []), AV.d (D.list [])], AV.d (D.int IntKind.i64 ec)]), [])) (by kernel_rfl) ?_
            rfl
    · obtain rfl := x1 ge
      rw [icall_body rfl Try.func24]
      rw [← hlp]
      conv => lhs; whnf
      refine nextK_of c1 ?_
      conv => lhs; whnf
      refine nextK_of c2 ?_
      conv => lhs; whnf
      refine nextK_of (loop_at hlp (hl _ rfl)) ?_
      conv => lhs; whnf
      refine iteK_beq_f ge ?_
      conv => lhs; whnf
      refine iteK_beq_f ge ?_
      conv => lhs; whnf
      refine iteK_beq_f ge ?_
      conv => lhs; whnf
      refine iteK_beq_f ge ?_
      conv => lhs; whnf
      refine iteK_beq_f ge ?_
      conv => lhs; whnf
      refine iteK_beq_f ge ?_
      conv => lhs; whnf
      refine iteK_beq_f ge ?_
      conv => lhs; whnf
      refine iteK_bne_t ge ?_
      conv => lhs; whnf
      refine iteO_t (by kernel_rfl) ?_
      conv => lhs; whnf
      refine iteO_t (by kernel_rfl) ?_
      conv => lhs; whnf
      refine Eq.trans (b := some (Res.ret (AV.tuple [AV.agg [AV.d (D.str []), AV.d (D.list [])], AV.d (D.int IntKind.i64 e2)]), [])) (by kernel_rfl) ?_
      rfl
  · obtain ⟨m, rfl⟩ : ∃ m, n = m + 1 := ⟨n - 1, by omega⟩
    obtain rfl : e2 = 0 := by omega
    obtain ⟨a3, h3, hl⟩ := o24S k b.length hb (by omega) v1 (m + 1) (by omega) hlp m rfl (b2, 0) a2 h2 rfl
    replace hl := fun st => hl k st (by omega)
    generalize sPlaces (m + 1) (b2, 0) = rr at *
    obtain ⟨pl, b3, e3⟩ := rr
    dsimp only at hl cd h3 x1 x2 x3 x4
    change icall Try.prog cfg k _ [.agg [.d (.str v1), .d (.list (pl.map PlaceT.cells))]] [] = _ at cd
    generalize hec : checkD ⟨v1, pl⟩ = ec at *
    have hav : (⟨v1, pl⟩ : DefT).av = .agg [.d (.str v1), .d (.list ((pl.map PlaceT.cells).take (pl.map PlaceT.cells).length))] := by rw [List.take_length]; rfl
    replace cd : icall Try.prog cfg k 12 [.agg [.d (.str v1), .d (.list ((pl.map PlaceT.cells).take (pl.map PlaceT.cells).length))]] [] = some (.ret (.d (.int .i64 ec)), []) := by rw [List.take_length]; exact cd
    obtain ⟨q1, q2, q3⟩ := h3
    dsimp only at q2 q3
    by_cases ge : e3 = 0
    · subst ge
      replace q3 := q3 rfl
      subst q3
      have hlen := bL_len a3
      by_cases gl : 0 < a3.length
      · obtain rfl := x2 rfl gl
        clear hav cd
        generalize pl.map PlaceT.cells = R at *
        rw [icall_body rfl Try.func24]
        rw [← hlp]
        conv => lhs; whnf
        refine nextK_of c1 ?_
        conv => lhs; whnf
        refine nextK_of c2 ?_
        conv => lhs; whnf
        refine nextK_of (loop_at hlp (hl _ rfl)) ?_
        conv => lhs; whnf
        refine iteK_dec (fun h1 => ?_) (fun h1 => ?_)
        · rw [dec_t h1]
          conv => lhs; whnf
          refine iteO_t (by kernel_rfl) ?_
          conv => lhs; whnf
          refine iteO_t (by kernel_rfl) ?_
          conv => lhs; whnf
          refine Eq.trans (b := some (Res.ret (AV.tuple [AV.agg [AV.d (D.str []), AV.d (D.list [])], AV.d (D.int IntKind.i64 (3 : Int))]), [])) (by kernel_rfl) ?_
          rfl
        · rw [dec_f h1]
          (exfalso; omega)
      · by_cases gc : ec = 0
        · obtain rfl := x4 rfl gl gc
          subst gc
          dsimp only
          rw [hav]
          clear hav
          generalize pl.map PlaceT.cells = R at *
          rw [icall_body rfl Try.func24]
          rw [← hlp]
          conv => lhs; whnf
          refine nextK_of c1 ?_
          conv => lhs; whnf
          refine nextK_of c2 ?_
          conv => lhs; whnf
          refine nextK_of (loop_at hlp (hl _ rfl)) ?_
          conv => lhs; whnf
          refine iteK_dec (fun h1 => ?_) (fun h1 => ?_)
          · rw [dec_t h1]
            (exfalso; omega)
          · rw [dec_f h1]
            conv => lhs; whnf
            refine nextK_of cd ?_
            conv => lhs; whnf
            refine Eq.trans (b := some (Res.ret (AV.tuple [AV.agg [AV.d (D.str v1), AV.d (D.list (List.take (List.length R) R))], AV.d (D.int IntKind.i64 (0 : Int))]), [])) (by kernel_rfl) ?_
            rfl
        · obtain rfl := x3 rfl gl gc
          clear hav
          generalize pl.map PlaceT.cells = R at *
          rw [icall_body rfl Try.func24]
          rw [← hlp]
          conv => lhs; whnf
          refine nextK_of c1 ?_
          conv => lhs; whnf
          refine nextK_of c2 ?_
          conv => lhs; whnf
          refine nextK_of (loop_at hlp (hl _ rfl)) ?_
          conv => lhs; whnf
          refine iteK_dec (fun h1 => ?_) (fun h1 => ?_)
          · rw [dec_t h1]
            (exfalso; omega)
          · rw [dec_f h1]
            conv => lhs; whnf
            refine nextK_of cd ?_
            conv => lhs; whnf
            refine iteK_bne_t gc ?_
            conv => lhs; whnf
            refine Eq.trans (b := some (Res.ret (AV.tuple [AV.agg [AV.d (D.str []), AV.d (D.list [])], AV.d (D.int IntKind.i64 ec)]), [])) (by kernel_rfl) ?_
            rfl
    · obtain rfl := x1 ge
      clear hav cd
      generalize pl.map PlaceT.cells = R at *
      rw [icall_body rfl Try.func24]
      rw [← hlp]
      conv => lhs; whnf
      refine nextK_of c1 ?_
      conv => lhs; whnf
      refine nextK_of c2 ?_
      conv => lhs; whnf
      refine nextK_of (loop_at hlp (hl _ rfl)) ?_
      conv => lhs; whnf
      refine iteK_beq_f ge ?_
      conv => lhs; whnf
      refine iteK_beq_f ge ?_
      conv => lhs; whnf
      refine iteK_beq_f ge ?_
      conv => lhs; whnf
      refine iteK_beq_f ge ?_
      conv => lhs; whnf
      refine iteK_beq_f ge ?_
      conv => lhs; whnf
      refine iteK_beq_f ge ?_
      conv => lhs; whnf
      refine iteK_beq_f ge ?_
      conv => lhs; whnf
      refine iteK_bne_t ge ?_
      conv => lhs; whnf
      refine iteO_t (by kernel_rfl) ?_
      conv => lhs; whnf
      refine iteO_t (by kernel_rfl) ?_
      conv => lhs; whnf
      refine Eq.trans (b := some (Res.ret (AV.tuple [AV.agg [AV.d (D.str []), AV.d (D.list [])], AV.d (D.int IntKind.i64 e3)]), [])) (by kernel_rfl) ?_
      rfl
end Go.Rx11
end
