/- A part of the proof of the law: what functions of the program come to, walked by Rx, or plain facts on it. -/
import Derived.Test.YtahnmikdpclbfaaRReadP
import Derived.Test.YtahnmikdpclbfaaRJ0
import Derived.Test.YtahnmikdpclbfaaRChk
open Go Go.Rx Go.Proofs Go.Rx11 Go.RxTree
set_option maxRecDepth 1000000
set_option maxHeartbeats 4000000
set_option linter.unusedVariables false
set_option linter.unusedSimpArgs false
namespace Go.Rx11
theorem lenP {n : Nat} (h : n ≤ 50000000) : (n + 1) * (80 + 1) ≤ lim := by unfold lim; omega
theorem r25E (j : Nat) (B : List UInt8) (hB : B.length ≤ LB) (hj : 7 * B.length + 20000 < j) (id : List UInt8) (n : Nat) (hn16 : n ≤ 1000000) {lp : LP} (hlp : lp = lpOf Try.prog cfg (icall Try.prog cfg j) Try.f25.ntmps 25 j (([] : Hp).map (·.1))) (a : Nat) (e : Int) (z : Int) (he : e ≠ 0 ∨ ¬ z < (n : Int)) (lf : Nat) (hlf : 0 < lf) (st : St)
    (hp : prune [] [0, 2, 4, 5, 6, 7] st = some ⟨[(0, .d (.list (bL B))), (2, .ptr (.slot 2) 0), (4, .ptr (.slot 12) 0), (5, .ptr (.slot 5) 0), (6, .d (.int .i64 n)), (7, .d (.int .i64 z))], [(.slot 2, .cells [.d (.str []), .nilsl]), (.slot 12, .cells [.d (.list (bL B)), .d (.int .i64 a), .d (.int .i64 e)]), (.slot 5, .cells [.d (.str id), .nilsl])]⟩) :
    loopK Try.prog cfg (icall Try.prog cfg j) lp Try.f25.ntmps 25 [] (bodyAt Try.f25 6) lf st (exitP [] (some [0, 2, 4, 5])) = some (.exit 0, ⟨[(0, .d (.list (bL B))), (2, .ptr (.slot 2) 0), (4, .ptr (.slot 12) 0), (5, .ptr (.slot 5) 0)], [(.slot 2, .cells [.d (.str []), .nilsl]), (.slot 12, .cells [.d (.list (bL B)), .d (.int .i64 a), .d (.int .i64 e)]), (.slot 5, .cells [.d (.str id), .nilsl])]⟩) := by
  obtain ⟨lf, rfl⟩ : ∃ n, lf = n + 1 := ⟨lf - 1, by omega⟩
  refine loop_step hp ?_
  conv => lhs; whnf
  refine iteK_dec (fun h1 => ?_) (fun h1 => ?_)
  · rw [dec_t h1]
    conv => lhs; whnf
    refine iteK_beq (fun h2 => ?_) (fun h2 => ?_)
    · obtain rfl : e = (0 : Int) := h2
      (exfalso; omega)
    · rw [beq_f h2]
      conv => lhs; whnf
      refine Eq.trans (b := some (Fx.exit (0 : Nat), St.mk [((0 : Nat), AV.d (D.list (bL B))), ((2 : Nat), AV.ptr (Nm.slot (2 : Nat)) (0 : Nat)), ((4 : Nat), AV.ptr (Nm.slot (12 : Nat)) (0 : Nat)), ((5 : Nat), AV.ptr (Nm.slot (5 : Nat)) (0 : Nat))] [(Nm.slot (2 : Nat), AObj.cells [AV.d (D.str []), AV.nilsl]), (Nm.slot (12 : Nat), AObj.cells [AV.d (D.list (bL B)), AV.d (D.int IntKind.i64 ↑a), AV.d (D.int IntKind.i64 e)]), (Nm.slot (5 : Nat), AObj.cells [AV.d (D.str id), AV.nilsl])])) (by kernel_rfl) ?_
      rfl
  · rw [dec_f h1]
    conv => lhs; whnf
    refine Eq.trans (b := some (Fx.exit (0 : Nat), St.mk [((0 : Nat), AV.d (D.list (bL B))), ((2 : Nat), AV.ptr (Nm.slot (2 : Nat)) (0 : Nat)), ((4 : Nat), AV.ptr (Nm.slot (12 : Nat)) (0 : Nat)), ((5 : Nat), AV.ptr (Nm.slot (5 : Nat)) (0 : Nat))] [(Nm.slot (2 : Nat), AObj.cells [AV.d (D.str []), AV.nilsl]), (Nm.slot (12 : Nat), AObj.cells [AV.d (D.list (bL B)), AV.d (D.int IntKind.i64 ↑a), AV.d (D.int IntKind.i64 e)]), (Nm.slot (5 : Nat), AObj.cells [AV.d (D.str id), AV.nilsl])])) (by kernel_rfl) ?_
    rfl
theorem r25F (j : Nat) (B : List UInt8) (hB : B.length ≤ LB) (hj : 7 * B.length + 20000 < j) (id : List UInt8) (n : Nat) (hn16 : n ≤ 1000000) {lp : LP} (hlp : lp = lpOf Try.prog cfg (icall Try.prog cfg j) Try.f25.ntmps 25 j (([] : Hp).map (·.1))) (es : List (List D)) (l : Nat) (a : Nat) (e : Int) (z : Int) (he : e ≠ 0 ∨ ¬ z < (n : Int)) (lf : Nat) (hlf : 0 < lf) (st : St)
    (hp : prune [] [0, 2, 4, 5, 6, 7] st = some ⟨[(0, .d (.list (bL B))), (2, .ptr (.slot 2) 0), (4, .ptr (.slot 12) 0), (5, .ptr (.slot 5) 0), (6, .d (.int .i64 n)), (7, .d (.int .i64 z))], [(.slot 2, .cells [.d (.str []), .nilsl]), (.slot 12, .cells [.d (.list (bL B)), .d (.int .i64 a), .d (.int .i64 e)]), (.slot 5, .cells [.d (.str id), .own (.slot 37) 0 l]), (.slot 37, .arr 57 5 0 es)]⟩) :
    loopK Try.prog cfg (icall Try.prog cfg j) lp Try.f25.ntmps 25 [] (bodyAt Try.f25 6) lf st (exitP [] (some [0, 2, 4, 5])) = some (.exit 0, ⟨[(0, .d (.list (bL B))), (2, .ptr (.slot 2) 0), (4, .ptr (.slot 12) 0), (5, .ptr (.slot 5) 0)], [(.slot 2, .cells [.d (.str []), .nilsl]), (.slot 12, .cells [.d (.list (bL B)), .d (.int .i64 a), .d (.int .i64 e)]), (.slot 5, .cells [.d (.str id), .own (.slot 37) 0 l]), (.slot 37, .arr 57 5 0 es)]⟩) := by
  obtain ⟨lf, rfl⟩ : ∃ n, lf = n + 1 := ⟨lf - 1, by omega⟩
  refine loop_step hp ?_
  conv => lhs; whnf
  refine iteK_dec (fun h1 => ?_) (fun h1 => ?_)
  · rw [dec_t h1]
    conv => lhs; whnf
    refine iteK_beq (fun h2 => ?_) (fun h2 => ?_)
    · obtain rfl : e = (0 : Int) := h2
      (exfalso; omega)
    · rw [beq_f h2]
      conv => lhs; whnf
      refine Eq.trans (b := some (Fx.exit (0 : Nat), St.mk [((0 : Nat), AV.d (D.list (bL B))), ((2 : Nat), AV.ptr (Nm.slot (2 : Nat)) (0 : Nat)), ((4 : Nat), AV.ptr (Nm.slot (12 : Nat)) (0 : Nat)), ((5 : Nat), AV.ptr (Nm.slot (5 : Nat)) (0 : Nat))] [(Nm.slot (2 : Nat), AObj.cells [AV.d (D.str []), AV.nilsl]), (Nm.slot (12 : Nat), AObj.cells [AV.d (D.list (bL B)), AV.d (D.int IntKind.i64 ↑a), AV.d (D.int IntKind.i64 e)]), (Nm.slot (5 : Nat), AObj.cells [AV.d (D.str id), AV.own (Nm.slot (37 : Nat)) (nat_lit 0) l]), (Nm.slot (37 : Nat), AObj.arr (57 : Nat) (5 : Nat) (nat_lit 0) es)])) (by kernel_rfl) ?_
      rfl
  · rw [dec_f h1]
    conv => lhs; whnf
    refine Eq.trans (b := some (Fx.exit (0 : Nat), St.mk [((0 : Nat), AV.d (D.list (bL B))), ((2 : Nat), AV.ptr (Nm.slot (2 : Nat)) (0 : Nat)), ((4 : Nat), AV.ptr (Nm.slot (12 : Nat)) (0 : Nat)), ((5 : Nat), AV.ptr (Nm.slot (5 : Nat)) (0 : Nat))] [(Nm.slot (2 : Nat), AObj.cells [AV.d (D.str []), AV.nilsl]), (Nm.slot (12 : Nat), AObj.cells [AV.d (D.list (bL B)), AV.d (D.int IntKind.i64 ↑a), AV.d (D.int IntKind.i64 e)]), (Nm.slot (5 : Nat), AObj.cells [AV.d (D.str id), AV.own (Nm.slot (37 : Nat)) (nat_lit 0) l]), (Nm.slot (37 : Nat), AObj.arr (57 : Nat) (5 : Nat) (nat_lit 0) es)])) (by kernel_rfl) ?_
    rfl
theorem r25L (j : Nat) (B : List UInt8) (hB : B.length ≤ LB) (hj : 7 * B.length + 20000 < j) (id : List UInt8) (n : Nat) (hn16 : n ≤ 1000000) {lp : LP} (hlp : lp = lpOf Try.prog cfg (icall Try.prog cfg j) Try.f25.ntmps 25 j (([] : Hp).map (·.1))) :
    ∀ (m i : Nat) (z : Int) (s : Sg) (a : Nat) (e : Int) (l : Nat) (es : List (List D)), n - i = m → i ≤ n → z = (i : Int) → Rf B a s → s.2 = e → es.length = l → l ≤ 2000000 + i →
    ∃ a', Rf B a' (sPlaces m s).2 ∧ ∀ (lf : Nat) (st : St), m + 1 < lf → prune [] [0, 2, 4, 5, 6, 7] st = some ⟨[(0, .d (.list (bL B))), (2, .ptr (.slot 2) 0), (4, .ptr (.slot 12) 0), (5, .ptr (.slot 5) 0), (6, .d (.int .i64 n)), (7, .d (.int .i64 z))], [(.slot 2, .cells [.d (.str []), .nilsl]), (.slot 12, .cells [.d (.list (bL B)), .d (.int .i64 a), .d (.int .i64 e)]), (.slot 5, .cells [.d (.str id), .own (.slot 37) 0 l]), (.slot 37, .arr 57 5 0 es)]⟩ →
    loopK Try.prog cfg (icall Try.prog cfg j) lp Try.f25.ntmps 25 [] (bodyAt Try.f25 6) lf st (exitP [] (some [0, 2, 4, 5])) = some (.exit 0, ⟨[(0, .d (.list (bL B))), (2, .ptr (.slot 2) 0), (4, .ptr (.slot 12) 0), (5, .ptr (.slot 5) 0)], [(.slot 2, .cells [.d (.str []), .nilsl]), (.slot 12, .cells [.d (.list (bL B)), .d (.int .i64 a'), .d (.int .i64 (sPlaces m s).2.2)]), (.slot 5, .cells [.d (.str id), .own (.slot 37) 0 (es ++ (sPlaces m s).1.map PlaceT.cells).length]), (.slot 37, .arr 57 5 0 (es ++ (sPlaces m s).1.map PlaceT.cells))]⟩) := by
  intro m
  have hmx : 1000001 ≤ maxLen := by decide
  induction m with
  | zero =>
    intro i z s a e l es hi hle hz h he hl hb
    refine ⟨a, h, fun lf st hlf hp => ?_⟩
    rw [r25F j B hB hj id n hn16 hlp es l a e z (.inr (by omega)) lf (by omega) st hp]
    rw [sPlaces, List.map_nil, List.append_nil, hl, he]
  | succ m ihm =>
    intro i z s a e l es hi hle hz h he hl hb
    by_cases g0 : e ≠ 0
    · refine ⟨a, by rw [sPlaces_e _ (by omega)]; exact h, fun lf st hlf hp => ?_⟩
      rw [r25F j B hB hj id n hn16 hlp es l a e z (.inl g0) lf (by omega) st hp]
      rw [sPlaces_e _ (by omega), List.map_nil, List.append_nil, hl, he]
    · have g1 : s.2 = 0 := by omega
      obtain rfl : e = 0 := by omega
      rw [sPlaces_1 _ g1]
      obtain ⟨a1, h1, c1⟩ := place55 B hB a s h j hj
      generalize sPlace s = r1 at *
      obtain ⟨p, s1⟩ := r1
      dsimp only at h1 c1 ⊢
      have hR : es.take l ++ [[D.int .i64 p.kind, D.str p.name, D.int .i64 p.n, D.list (cellsL p.arg), D.list (p.out.map FlowT.cells)]] = es ++ [p.cells] := by rw [List.take_of_length_le (by omega)]; rfl
      have hRl : (es ++ [p.cells]).length = l + 1 := by rw [List.length_append, hl]; rfl
      obtain ⟨a3, h3, hih⟩ := ihm (i + 1) (IntKind.i64.wrap (z + 1)) s1 a1 _ (l + 1) (es ++ [p.cells]) (by omega) (by omega) (wrap_up hz (by omega)) h1 rfl hRl (by omega)
      refine ⟨a3, h3, fun lf st hlf hp => ?_⟩
      have hA : es ++ (p :: (sPlaces m s1).1).map PlaceT.cells = (es ++ [p.cells]) ++ (sPlaces m s1).1.map PlaceT.cells := by rw [List.append_assoc]; rfl
      rw [hA]
      rw [← hR] at hih ⊢
      have hend : z < (n : Int) := by omega
      rw [g1] at c1
      generalize sPlaces m s1 = rr at *
      obtain ⟨pk, pn, pv, pa, po⟩ := p
      obtain ⟨b1, e1⟩ := s1
      dsimp only at c1 hih ⊢
      obtain ⟨lf, rfl⟩ : ∃ n, lf = n + 1 := ⟨lf - 1, by omega⟩
      refine loop_step hp ?_
      conv => lhs; whnf
      refine iteK_dec_t hend ?_
      conv => lhs; whnf
      refine iteK_dec_t hend ?_
      conv => lhs; whnf
      refine iteK_dec_t hend ?_
      conv => lhs; whnf
      refine iteK_dec_t hend ?_
      conv => lhs; whnf
      refine iteK_dec_t hend ?_
      conv => lhs; whnf
      refine iteK_dec_t hend ?_
      conv => lhs; whnf
      refine nextK_of c1 ?_
      conv => lhs; whnf
      refine nextK_of (aop_app rfl rfl rfl rfl rfl rfl rfl rfl rfl rfl rfl rfl (lenP (by omega))) ?_
      conv => lhs; whnf
      refine Eq.trans (hih lf _ (by omega) rfl) ?_
      rfl
theorem r25S (j : Nat) (B : List UInt8) (hB : B.length ≤ LB) (hj : 7 * B.length + 20000 < j) (id : List UInt8) (n : Nat) (hn16 : n ≤ 1000000) {lp : LP} (hlp : lp = lpOf Try.prog cfg (icall Try.prog cfg j) Try.f25.ntmps 25 j (([] : Hp).map (·.1))) (m : Nat) (hm : n = m + 1) (s : Sg) (a : Nat) (h : Rf B a s) (g1 : s.2 = 0) :
    ∃ a', Rf B a' (sPlaces (m + 1) s).2 ∧ ∀ (lf : Nat) (st : St), m + 3 < lf → prune [] [0, 2, 4, 5, 6, 7] st = some ⟨[(0, .d (.list (bL B))), (2, .ptr (.slot 2) 0), (4, .ptr (.slot 12) 0), (5, .ptr (.slot 5) 0), (6, .d (.int .i64 n)), (7, .d (.int .i64 0))], [(.slot 2, .cells [.d (.str []), .nilsl]), (.slot 12, .cells [.d (.list (bL B)), .d (.int .i64 a), .d (.int .i64 0)]), (.slot 5, .cells [.d (.str id), .nilsl])]⟩ →
    loopK Try.prog cfg (icall Try.prog cfg j) lp Try.f25.ntmps 25 [] (bodyAt Try.f25 6) lf st (exitP [] (some [0, 2, 4, 5])) = some (.exit 0, ⟨[(0, .d (.list (bL B))), (2, .ptr (.slot 2) 0), (4, .ptr (.slot 12) 0), (5, .ptr (.slot 5) 0)], [(.slot 2, .cells [.d (.str []), .nilsl]), (.slot 12, .cells [.d (.list (bL B)), .d (.int .i64 a'), .d (.int .i64 (sPlaces (m + 1) s).2.2)]), (.slot 5, .cells [.d (.str id), .own (.slot 37) 0 ((sPlaces (m + 1) s).1.map PlaceT.cells).length]), (.slot 37, .arr 57 5 0 ((sPlaces (m + 1) s).1.map PlaceT.cells))]⟩) := by
  rw [sPlaces_1 _ g1]
  obtain ⟨a1, h1, c1⟩ := place55 B hB a s h j hj
  generalize sPlace s = r1 at *
  obtain ⟨p, s1⟩ := r1
  dsimp only at h1 c1 ⊢
  obtain ⟨a3, h3, hih⟩ := r25L j B hB hj id n hn16 hlp m 1 1 s1 a1 _ 1 [p.cells] (by omega) (by omega) rfl h1 rfl rfl (by omega)
  refine ⟨a3, h3, fun lf st hlf hp => ?_⟩
  have hend : (0 : Int) < (n : Int) := by omega
  rw [g1] at c1
  have hA : (p :: (sPlaces m s1).1).map PlaceT.cells = [p.cells] ++ (sPlaces m s1).1.map PlaceT.cells := rfl
  rw [hA]
  generalize sPlaces m s1 = rr at *
  obtain ⟨pk, pn, pv, pa, po⟩ := p
  obtain ⟨b1, e1⟩ := s1
  dsimp only at c1 hih ⊢
  obtain ⟨lf, rfl⟩ : ∃ n, lf = n + 1 := ⟨lf - 1, by omega⟩
  refine loop_step hp ?_
  conv => lhs; whnf
  refine iteK_dec_t hend ?_
  conv => lhs; whnf
  refine iteK_dec_t hend ?_
  conv => lhs; whnf
  refine iteK_dec_t hend ?_
  conv => lhs; whnf
  refine iteK_dec_t hend ?_
  conv => lhs; whnf
  refine iteK_dec_t hend ?_
  conv => lhs; whnf
  refine iteK_dec_t hend ?_
  conv => lhs; whnf
  refine nextK_of c1 ?_
  conv => lhs; whnf
  refine Eq.trans (hih lf _ (by omega) rfl) ?_
  rfl
theorem read25 (b : List UInt8) (hb : b.length ≤ LB) (k : Nat) (hk : 7 * b.length + (sDef b).wt + 30000 < k) : icall Try.prog cfg k 25 [.d (.list (bL b))] [] = some (.ret (.tuple [(readD b).1.av, .d (.int .i64 (readD b).2)]), []) := by
  obtain ⟨k, rfl⟩ : ∃ j, k = j + 1 := ⟨k - 1, by omega⟩
  obtain ⟨o1, o2⟩ := sDef_ok b hb
  have cd := check13 (sDef b) o2 o1 k (by omega)
  obtain ⟨a1, h1, c1⟩ := pText hb (s := (b, 0)) (a := 0) ⟨by omega, Nat.le_refl _, fun _ => rfl⟩
  obtain ⟨a2, h2, c2⟩ := pUint hb 4096 (by omega) h1
  replace c1 := c1 k (by omega)
  replace c2 := c2 k (by omega)
  have hn := sN_most 4096 (sT (b, 0)).2
  have hbl := bL_len b
  have x1 := @readD_e b
  have x2 := @readD_3 b
  have x3 := @readD_c b
  have x4 := @readD_0 b
  generalize readD b = rd at *
  replace hk : 7 * b.length + 29000 < k := by omega
  unfold sDef sD3 sD2 sD1 at *
  generalize sT (b, 0) = r1 at *
  obtain ⟨v1, b1, e1⟩ := r1
  dsimp only at c1 c2 h1 h2 cd hn x1 x2 x3 x4
  generalize sN 4096 (b1, e1) = r2 at *
  obtain ⟨n, b2, e2⟩ := r2
  dsimp only at c1 c2 h1 h2 cd hn x1 x2 x3 x4
  obtain ⟨lp, hlp⟩ : ∃ lp, lp = lpOf Try.prog cfg (icall Try.prog cfg k) Try.f25.ntmps 25 k (([] : Hp).map (·.1)) := ⟨_, rfl⟩
  by_cases g0 : e2 ≠ 0 ∨ n = 0
  · have hf : sPlaces n (b2, e2) = ([], b2, e2) := by
      rcases g0 with g | rfl
      · exact sPlaces_e n g
      · rfl
    rw [hf] at cd x1 x2 x3 x4
    dsimp only at cd x1 x2 x3 x4
    have hl := r25E k b hb (by omega) v1 n (by omega) hlp a2 e2 0 (by omega) k (by omega)
    generalize hec : checkD ⟨v1, []⟩ = ec at *
    obtain ⟨q1, q2, q3⟩ := h2
    dsimp only at q2 q3
    by_cases ge : e2 = 0
    · subst ge
      replace q3 := q3 rfl
      have hlen : b2.length = b.length - a2 := by rw [q3, List.length_drop]
      by_cases gl : 0 < b2.length
      · obtain rfl := x2 rfl gl
        rw [icall_body rfl Try.func25]
        rw [← hlp]
        conv => lhs; whnf
        refine nextK_of c1 ?_
        conv => lhs; whnf
        refine nextK_of c2 ?_
        conv => lhs; whnf
        refine nextK_of (loop_at hlp (hl _ rfl)) ?_
        conv => lhs; whnf
        refine iteK_dec (fun h1 => ?_) (fun h1 => ?_)
        · rw [dec_t h1]
          conv => lhs; whnf
          refine Eq.trans (b := some (Res.ret (AV.tuple [AV.agg [AV.d (D.str []), AV.d (D.list [])], AV.d (D.int IntKind.i64 (3 : Int))]), [])) (by kernel_rfl) ?_
          rfl
        · rw [dec_f h1]
          (exfalso; omega)
      · by_cases gc : ec = 0
        · obtain rfl := x4 rfl gl gc
          subst gc
          rw [icall_body rfl Try.func25]
          rw [← hlp]
          conv => lhs; whnf
          refine nextK_of c1 ?_
          conv => lhs; whnf
          refine nextK_of c2 ?_
          conv => lhs; whnf
          refine nextK_of (loop_at hlp (hl _ rfl)) ?_
          conv => lhs; whnf
          refine iteK_dec (fun h1 => ?_) (fun h1 => ?_)
          · rw [dec_t h1]
            (exfalso; omega)
          · rw [dec_f h1]
            conv => lhs; whnf
            refine nextK_of cd ?_
            conv => lhs; whnf
            refine Eq.trans (b := some (Res.ret (AV.tuple [AV.agg [AV.d (D.str v1), AV.d (D.list [])], AV.d (D.int IntKind.i64 (0 : Int))]), [])) (by kernel_rfl) ?_
            rfl
        · obtain rfl := x3 rfl gl gc
          rw [icall_body rfl Try.func25]
          rw [← hlp]
          conv => lhs; whnf
          refine nextK_of c1 ?_
          conv => lhs; whnf
          refine nextK_of c2 ?_
          conv => lhs; whnf
          refine nextK_of (loop_at hlp (hl _ rfl)) ?_
          conv => lhs; whnf
          refine iteK_dec (fun h1 => ?_) (fun h1 => ?_)
          · rw [dec_t h1]
            (exfalso; omega)
          · rw [dec_f h1]
            conv => lhs; whnf
            refine nextK_of cd ?_
            conv => lhs; whnf
            refine iteK_bne_t gc ?_
            conv => lhs; whnf
            refine Eq.trans (b := some (Res.ret (AV.tuple [AV.agg [AV.d (D.str []), AV.d (D.list [])], AV.d (D.int IntKind.i64 ec)]), [])) (by kernel_rfl) ?_
            rfl
    · obtain rfl := x1 ge
      rw [icall_body rfl Try.func25]
      rw [← hlp]
      conv => lhs; whnf
      refine nextK_of c1 ?_
      conv => lhs; whnf
      refine nextK_of c2 ?_
      conv => lhs; whnf
      refine nextK_of (loop_at hlp (hl _ rfl)) ?_
      conv => lhs; whnf
      refine iteK_bne_t ge ?_
      conv => lhs; whnf
      refine iteO_t (by kernel_rfl) ?_
      conv => lhs; whnf
      refine iteO_t (by kernel_rfl) ?_
      conv => lhs; whnf
      refine Eq.trans (b := some (Res.ret (AV.tuple [AV.agg [AV.d (D.str []), AV.d (D.list [])], AV.d (D.int IntKind.i64 e2)]), [])) (by kernel_rfl) ?_
      rfl
  · obtain ⟨m, rfl⟩ : ∃ m, n = m + 1 := ⟨n - 1, by omega⟩
    obtain rfl : e2 = 0 := by omega
    obtain ⟨a3, h3, hl⟩ := r25S k b hb (by omega) v1 (m + 1) (by omega) hlp m rfl (b2, 0) a2 h2 rfl
    replace hl := fun st => hl k st (by omega)
    generalize sPlaces (m + 1) (b2, 0) = rr at *
    obtain ⟨pl, b3, e3⟩ := rr
    dsimp only at hl cd h3 x1 x2 x3 x4
    change icall Try.prog cfg k _ [.agg [.d (.str v1), .d (.list (pl.map PlaceT.cells))]] [] = _ at cd
    generalize hec : checkD ⟨v1, pl⟩ = ec at *
    have hav : (⟨v1, pl⟩ : DefT).av = .agg [.d (.str v1), .d (.list ((pl.map PlaceT.cells).take (pl.map PlaceT.cells).length))] := by rw [List.take_length]; rfl
    replace cd : icall Try.prog cfg k 13 [.agg [.d (.str v1), .d (.list ((pl.map PlaceT.cells).take (pl.map PlaceT.cells).length))]] [] = some (.ret (.d (.int .i64 ec)), []) := by rw [List.take_length]; exact cd
    obtain ⟨q1, q2, q3⟩ := h3
    dsimp only at q2 q3
    by_cases ge : e3 = 0
    · subst ge
      replace q3 := q3 rfl
      have hlen : b3.length = b.length - a3 := by rw [q3, List.length_drop]
      by_cases gl : 0 < b3.length
      · obtain rfl := x2 rfl gl
        clear hav cd
        generalize pl.map PlaceT.cells = R at *
        rw [icall_body rfl Try.func25]
        rw [← hlp]
        conv => lhs; whnf
        refine nextK_of c1 ?_
        conv => lhs; whnf
        refine nextK_of c2 ?_
        conv => lhs; whnf
        refine nextK_of (loop_at hlp (hl _ rfl)) ?_
        conv => lhs; whnf
        refine iteK_dec (fun h1 => ?_) (fun h1 => ?_)
        · rw [dec_t h1]
          conv => lhs; whnf
          refine Eq.trans (b := some (Res.ret (AV.tuple [AV.agg [AV.d (D.str []), AV.d (D.list [])], AV.d (D.int IntKind.i64 (3 : Int))]), [])) (by kernel_rfl) ?_
          rfl
        · rw [dec_f h1]
          (exfalso; omega)
      · by_cases gc : ec = 0
        · obtain rfl := x4 rfl gl gc
          subst gc
          dsimp only
          rw [hav]
          clear hav
          generalize pl.map PlaceT.cells = R at *
          rw [icall_body rfl Try.func25]
          rw [← hlp]
          conv => lhs; whnf
          refine nextK_of c1 ?_
          conv => lhs; whnf
          refine nextK_of c2 ?_
          conv => lhs; whnf
          refine nextK_of (loop_at hlp (hl _ rfl)) ?_
          conv => lhs; whnf
          refine iteK_dec (fun h1 => ?_) (fun h1 => ?_)
          · rw [dec_t h1]
            (exfalso; omega)
          · rw [dec_f h1]
            conv => lhs; whnf
            refine nextK_of cd ?_
            conv => lhs; whnf
            refine Eq.trans (b := some (Res.ret (AV.tuple [AV.agg [AV.d (D.str v1), AV.d (D.list (List.take (List.length R) R))], AV.d (D.int IntKind.i64 (0 : Int))]), [])) (by kernel_rfl) ?_
            rfl
        · obtain rfl := x3 rfl gl gc
          clear hav
          generalize pl.map PlaceT.cells = R at *
          rw [icall_body rfl Try.func25]
          rw [← hlp]
          conv => lhs; whnf
          refine nextK_of c1 ?_
          conv => lhs; whnf
          refine nextK_of c2 ?_
          conv => lhs; whnf
          refine nextK_of (loop_at hlp (hl _ rfl)) ?_
          conv => lhs; whnf
          refine iteK_dec (fun h1 => ?_) (fun h1 => ?_)
          · rw [dec_t h1]
            (exfalso; omega)
          · rw [dec_f h1]
            conv => lhs; whnf
            refine nextK_of cd ?_
            conv => lhs; whnf
            refine iteK_bne_t gc ?_
            conv => lhs; whnf
            refine Eq.trans (b := some (Res.ret (AV.tuple [AV.agg [AV.d (D.str []), AV.d (D.list [])], AV.d (D.int IntKind.i64 ec)]), [])) (by kernel_rfl) ?_
            rfl
    · obtain rfl := x1 ge
      clear hav cd
      generalize pl.map PlaceT.cells = R at *
      rw [icall_body rfl Try.func25]
      rw [← hlp]
      conv => lhs; whnf
      refine nextK_of c1 ?_
      conv => lhs; whnf
      refine nextK_of c2 ?_
      conv => lhs; whnf
      refine nextK_of (loop_at hlp (hl _ rfl)) ?_
      conv => lhs; whnf
      refine iteK_bne_t ge ?_
      conv => lhs; whnf
      refine iteO_t (by kernel_rfl) ?_
      conv => lhs; whnf
      refine iteO_t (by kernel_rfl) ?_
      conv => lhs; whnf
      refine Eq.trans (b := some (Res.ret (AV.tuple [AV.agg [AV.d (D.str []), AV.d (D.list [])], AV.d (D.int IntKind.i64 e3)]), [])) (by kernel_rfl) ?_
      rfl
end Go.Rx11
