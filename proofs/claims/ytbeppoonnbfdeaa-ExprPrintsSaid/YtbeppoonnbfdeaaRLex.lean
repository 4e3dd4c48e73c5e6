/- A part of the proof of the law: what functions of the program come to, walked by Rx, or plain facts on it. -/
import Derived.Test.YtbeppoonnbfdeaaRPar1
open Go Go.Rx Go.Proofs Go.Rx07.P Go.RxTree
set_option maxRecDepth 1000000
set_option maxHeartbeats 4000000
set_option linter.unusedVariables false
set_option linter.unusedSimpArgs false
namespace Go.Rx07.P
theorem kind_1 {c : UInt8} (h : kindB c = 1) : 48 ≤ c.toNat ∧ c.toNat ≤ 57 := by
  unfold kindB at h
  split at h
  · omega
  · split at h
    · assumption
    · split at h
      · omega
      · split at h <;> omega
theorem digit {c : UInt8} (h : kindB c = 1) : IntKind.i64.wrap (IntKind.u8.wrap ((c.toNat : Int) - 48)) = ((c.toNat - 48 : Nat) : Int) := by
  have := kind_1 h
  rw [Go.Rx.wrap_u8 (by omega) (by omega), Go.Rx.wrap_i64 (by omega) (by omega)]; omega
theorem lenW {n : Nat} (h : n ≤ 50000000) : (n + 1) * (40 + 1) ≤ lim := by unfold lim; omega
theorem n_endN (j : Nat) (hj : 100 < j) (s : List UInt8) (hs : s.length ≤ 4096) (z : Int) (y nv : Int) (i : Nat) (hy : y = (i : Int)) (hend : s.length ≤ i ∨ ∃ c, s[i]? = some c ∧ kindB c ≠ 1) {lp : LP} (hlp : lp = lpOf Try.prog cfg (icall Try.prog cfg j) Try.f19.ntmps 19 j (([] : Hp).map (·.1))) (lf : Nat) (st : St) (hp : prune [] [0, 3, 4, 5, 6, 7] st = some ⟨[(0, .d (.str s)), (3, .ptr (.slot 3) 0), (4, .nilsl), (5, .d (.int .i64 z)), (6, .ptr (.slot 6) 0), (7, .d (.int .i64 y))], [(.slot 3, .cells [.d (.int .i64 0), .d (.int .i64 0)]), (.slot 6, .cells [.d (.int .i64 1), .d (.str []), .d (.int .i64 nv), .d (.int .i64 z)])]⟩) : loopK Try.prog cfg (icall Try.prog cfg j) lp Try.f19.ntmps 19 [] (bodyAt Try.f19 16) (lf + 1) st (exitP [] (some [0, 2, 3, 4, 6, 7])) = some (.exit 8, ⟨[(0, .d (.str s)), (2, .undef), (3, .ptr (.slot 3) 0), (4, .nilsl), (6, .ptr (.slot 6) 0), (7, .d (.int .i64 y))], [(.slot 3, .cells [.d (.int .i64 0), .d (.int .i64 0)]), (.slot 6, .cells [.d (.int .i64 1), .d (.str []), .d (.int .i64 nv), .d (.int .i64 z)])]⟩) := by
  refine loop_step hp ?_
  rcases hend with h | ⟨c, hx, hc⟩
  · have hend : ¬ y < (s.length : Int) := by omega
    conv => lhs; whnf
    refine iteK_dec_f hend ?_
    conv => lhs; whnf
    refine iteK_dec_f hend ?_
    conv => lhs; whnf
    refine iteK_dec_f hend ?_
    conv => lhs; whnf
    refine iteK_dec_f hend ?_
    conv => lhs; whnf
    refine iteK_dec_f hend ?_
    conv => lhs; whnf
    refine iteK_dec_f hend ?_
    conv => lhs; whnf
    refine Eq.trans (b := some (Fx.exit (8 : Nat), St.mk [((0 : Nat), AV.d (D.str s)), ((2 : Nat), AV.undef), ((3 : Nat), AV.ptr (Nm.slot (3 : Nat)) (0 : Nat)), ((4 : Nat), AV.nilsl), ((6 : Nat), AV.ptr (Nm.slot (6 : Nat)) (0 : Nat)), ((7 : Nat), AV.d (D.int IntKind.i64 y))] [(Nm.slot (3 : Nat), AObj.cells [AV.d (D.int IntKind.i64 (0 : Int)), AV.d (D.int IntKind.i64 (0 : Int))]), (Nm.slot (6 : Nat), AObj.cells [AV.d (D.int IntKind.i64 (1 : Int)), AV.d (D.str []), AV.d (D.int IntKind.i64 nv), AV.d (D.int IntKind.i64 z)])])) (by kernel_rfl) ?_
    rfl
  · have hi := (List.getElem?_eq_some_iff.1 hx).1
    have hend : y < (s.length : Int) := by omega
    have c1 := kind31 c j (by omega)
    generalize kindB c = q at *
    conv => lhs; whnf
    refine iteK_dec_t hend ?_
    conv => lhs; whnf
    refine iteK_dec_t hend ?_
    conv => lhs; whnf
    refine iteK_dec_t hend ?_
    conv => lhs; whnf
    refine nextK_of (aop_ixS rfl rfl rfl (ixS_at' hy hx)) ?_
    conv => lhs; whnf
    refine iteK_dec_t hend ?_
    conv => lhs; whnf
    refine nextK_of c1 ?_
    conv => lhs; whnf
    refine iteK_dec_t hend ?_
    conv => lhs; whnf
    refine iteK_dec_t hend ?_
    conv => lhs; whnf
    refine iteK_beq_f hc ?_
    conv => lhs; whnf
    refine Eq.trans (b := some (Fx.exit (8 : Nat), St.mk [((0 : Nat), AV.d (D.str s)), ((2 : Nat), AV.undef), ((3 : Nat), AV.ptr (Nm.slot (3 : Nat)) (0 : Nat)), ((4 : Nat), AV.nilsl), ((6 : Nat), AV.ptr (Nm.slot (6 : Nat)) (0 : Nat)), ((7 : Nat), AV.d (D.int IntKind.i64 y))] [(Nm.slot (3 : Nat), AObj.cells [AV.d (D.int IntKind.i64 (0 : Int)), AV.d (D.int IntKind.i64 (0 : Int))]), (Nm.slot (6 : Nat), AObj.cells [AV.d (D.int IntKind.i64 (1 : Int)), AV.d (D.str []), AV.d (D.int IntKind.i64 nv), AV.d (D.int IntKind.i64 z)])])) (by kernel_rfl) ?_
    rfl
theorem n_ovfN (j : Nat) (hj : 100 < j) (s : List UInt8) (hs : s.length ≤ 4096) (z : Int) (y nv : Int) (i : Nat) (hy : y = (i : Int)) (c : UInt8) (hx : s[i]? = some c) (hk : kindB c = 1) (hov : nv > ((9223372036854775807 : Int) - ((c.toNat - 48 : Nat) : Int)).tdiv 10) {lp : LP} (hlp : lp = lpOf Try.prog cfg (icall Try.prog cfg j) Try.f19.ntmps 19 j (([] : Hp).map (·.1))) (lf : Nat) (st : St) (hp : prune [] [0, 3, 4, 5, 6, 7] st = some ⟨[(0, .d (.str s)), (3, .ptr (.slot 3) 0), (4, .nilsl), (5, .d (.int .i64 z)), (6, .ptr (.slot 6) 0), (7, .d (.int .i64 y))], [(.slot 3, .cells [.d (.int .i64 0), .d (.int .i64 0)]), (.slot 6, .cells [.d (.int .i64 1), .d (.str []), .d (.int .i64 nv), .d (.int .i64 z)])]⟩) : loopK Try.prog cfg (icall Try.prog cfg j) lp Try.f19.ntmps 19 [] (bodyAt Try.f19 16) (lf + 1) st (exitP [] (some [0, 2, 3, 4, 6, 7])) = some (.ret, ⟨[(0, .d (.str s)), (2, .nilsl), (3, .ptr (.slot 3) 0), (4, .nilsl), (6, .ptr (.slot 6) 0), (7, .d (.int .i64 y))], [(.slot 3, .cells [.d (.int .i64 13), .d (.int .i64 z)]), (.slot 6, .cells [.d (.int .i64 1), .d (.str []), .d (.int .i64 nv), .d (.int .i64 z)])]⟩) := by
  have hi := (List.getElem?_eq_some_iff.1 hx).1
  have hend : y < (s.length : Int) := by omega
  have c1 := kind31 c j (by omega)
  have hd := digit hk
  have hkk := kind_1 hk
  rw [hk] at c1
  have hov2 : nv > IntKind.i64.wrap ((IntKind.i64.wrap (9223372036854775807 - IntKind.i64.wrap (IntKind.u8.wrap ((c.toNat : Int) - 48)))).tdiv 10) := by
    rw [hd, Go.Rx.wrap_i64 (n := 9223372036854775807 - _) (by omega) (by omega), Go.Rx.wrap_i64 (by rw [Int.tdiv_eq_ediv_of_nonneg (by omega)]; omega) (by rw [Int.tdiv_eq_ediv_of_nonneg (by omega)]; omega)]
    exact hov
  refine loop_step hp ?_
  conv => lhs; whnf
  refine iteK_dec_t hend ?_
  conv => lhs; whnf
  refine iteK_dec_t hend ?_
  conv => lhs; whnf
  refine iteK_dec_t hend ?_
  conv => lhs; whnf
  refine nextK_of (aop_ixS rfl rfl rfl (ixS_at' hy hx)) ?_
  conv => lhs; whnf
  refine iteK_dec_t hend ?_
  conv => lhs; whnf
  refine nextK_of c1 ?_
  conv => lhs; whnf
  refine iteK_dec_t hend ?_
  conv => lhs; whnf
  refine iteK_dec_t hend ?_
  conv => lhs; whnf
  refine nextK_of (aop_ixS rfl rfl rfl (ixS_at' hy hx)) ?_
  conv => lhs; whnf
  refine iteK_dec_t hov2 ?_
  conv => lhs; whnf
  refine Eq.trans (b := some (Fx.ret, St.mk [((0 : Nat), AV.d (D.str s)), ((2 : Nat), AV.nilsl), ((3 : Nat), AV.ptr (Nm.slot (3 : Nat)) (0 : Nat)), ((4 : Nat), AV.nilsl), ((6 : Nat), AV.ptr (Nm.slot (6 : Nat)) (0 : Nat)), ((7 : Nat), AV.d (D.int IntKind.i64 y))] [(Nm.slot (3 : Nat), AObj.cells [AV.d (D.int IntKind.i64 (13 : Int)), AV.d (D.int IntKind.i64 z)]), (Nm.slot (6 : Nat), AObj.cells [AV.d (D.int IntKind.i64 (1 : Int)), AV.d (D.str []), AV.d (D.int IntKind.i64 nv), AV.d (D.int IntKind.i64 z)])])) (by kernel_rfl) ?_
  rfl
theorem n_nextN (j : Nat) (hj : 100 < j) (s : List UInt8) (hs : s.length ≤ 4096) (z : Int) (y nv : Int) (hnv : 0 ≤ nv) (i : Nat) (hy : y = (i : Int)) (c : UInt8) (hx : s[i]? = some c) (hk : kindB c = 1) (hov : ¬ nv > ((9223372036854775807 : Int) - ((c.toNat - 48 : Nat) : Int)).tdiv 10) {lp : LP} (hlp : lp = lpOf Try.prog cfg (icall Try.prog cfg j) Try.f19.ntmps 19 j (([] : Hp).map (·.1))) (lf : Nat) (st : St) (hp : prune [] [0, 3, 4, 5, 6, 7] st = some ⟨[(0, .d (.str s)), (3, .ptr (.slot 3) 0), (4, .nilsl), (5, .d (.int .i64 z)), (6, .ptr (.slot 6) 0), (7, .d (.int .i64 y))], [(.slot 3, .cells [.d (.int .i64 0), .d (.int .i64 0)]), (.slot 6, .cells [.d (.int .i64 1), .d (.str []), .d (.int .i64 nv), .d (.int .i64 z)])]⟩) (r : Option (Fx × St))
    (hih : ∀ st', prune [] [0, 3, 4, 5, 6, 7] st' = some ⟨[(0, .d (.str s)), (3, .ptr (.slot 3) 0), (4, .nilsl), (5, .d (.int .i64 z)), (6, .ptr (.slot 6) 0), (7, .d (.int .i64 (IntKind.i64.wrap (y + 1))))], [(.slot 3, .cells [.d (.int .i64 0), .d (.int .i64 0)]), (.slot 6, .cells [.d (.int .i64 1), .d (.str []), .d (.int .i64 (IntKind.i64.wrap (IntKind.i64.wrap (nv * 10) + IntKind.i64.wrap (IntKind.u8.wrap ((c.toNat : Int) - 48))))), .d (.int .i64 z)])]⟩ → loopK Try.prog cfg (icall Try.prog cfg j) lp Try.f19.ntmps 19 [] (bodyAt Try.f19 16) lf st' (exitP [] (some [0, 2, 3, 4, 6, 7])) = r) : loopK Try.prog cfg (icall Try.prog cfg j) lp Try.f19.ntmps 19 [] (bodyAt Try.f19 16) (lf + 1) st (exitP [] (some [0, 2, 3, 4, 6, 7])) = r := by
  have hi := (List.getElem?_eq_some_iff.1 hx).1
  have hend : y < (s.length : Int) := by omega
  have c1 := kind31 c j (by omega)
  have hd := digit hk
  have hkk := kind_1 hk
  rw [hk] at c1
  have hov2 : ¬ nv > IntKind.i64.wrap ((IntKind.i64.wrap (9223372036854775807 - IntKind.i64.wrap (IntKind.u8.wrap ((c.toNat : Int) - 48)))).tdiv 10) := by
    rw [hd, Go.Rx.wrap_i64 (n := 9223372036854775807 - _) (by omega) (by omega), Go.Rx.wrap_i64 (by rw [Int.tdiv_eq_ediv_of_nonneg (by omega)]; omega) (by rw [Int.tdiv_eq_ediv_of_nonneg (by omega)]; omega)]
    exact hov
  refine loop_step hp ?_
  conv => lhs; whnf
  refine iteK_dec_t hend ?_
  conv => lhs; whnf
  refine iteK_dec_t hend ?_
  conv => lhs; whnf
  refine iteK_dec_t hend ?_
  conv => lhs; whnf
  refine nextK_of (aop_ixS rfl rfl rfl (ixS_at' hy hx)) ?_
  conv => lhs; whnf
  refine iteK_dec_t hend ?_
  conv => lhs; whnf
  refine nextK_of c1 ?_
  conv => lhs; whnf
  refine iteK_dec_t hend ?_
  conv => lhs; whnf
  refine iteK_dec_t hend ?_
  conv => lhs; whnf
  refine nextK_of (aop_ixS rfl rfl rfl (ixS_at' hy hx)) ?_
  conv => lhs; whnf
  refine iteK_dec_f hov2 ?_
  conv => lhs; whnf
  refine Eq.trans (hih _ rfl) ?_
  rfl
theorem a_endN (j : Nat) (hj : 100 < j) (s : List UInt8) (hs : s.length ≤ 4096) (z : Int) (y : Int) (i : Nat) (hy : y = (i : Int)) (hend : s.length ≤ i ∨ ∃ c, s[i]? = some c ∧ kindB c ≠ 2 ∧ kindB c ≠ 1) {lp : LP} (hlp : lp = lpOf Try.prog cfg (icall Try.prog cfg j) Try.f19.ntmps 19 j (([] : Hp).map (·.1))) (lf : Nat) (st : St) (hp : prune [] [0, 3, 4, 5, 6, 7] st = some ⟨[(0, .d (.str s)), (3, .ptr (.slot 3) 0), (4, .nilsl), (5, .d (.int .i64 z)), (6, .ptr (.slot 6) 0), (7, .d (.int .i64 y))], [(.slot 3, .cells [.d (.int .i64 0), .d (.int .i64 0)]), (.slot 6, .cells [.d (.int .i64 2), .d (.str []), .d (.int .i64 0), .d (.int .i64 z)])]⟩) : loopK Try.prog cfg (icall Try.prog cfg j) lp Try.f19.ntmps 19 [] (bodyAt Try.f19 24) (lf + 1) st (exitP [] (some [0, 3, 4, 5, 6, 7])) = some (.exit 10, ⟨[(0, .d (.str s)), (3, .ptr (.slot 3) 0), (4, .nilsl), (5, .d (.int .i64 z)), (6, .ptr (.slot 6) 0), (7, .d (.int .i64 y))], [(.slot 3, .cells [.d (.int .i64 0), .d (.int .i64 0)]), (.slot 6, .cells [.d (.int .i64 2), .d (.str []), .d (.int .i64 0), .d (.int .i64 z)])]⟩) := by
  refine loop_step hp ?_
  rcases hend with h | ⟨c, hx, hc, hc2⟩
  · have hend : ¬ y < (s.length : Int) := by omega
    conv => lhs; whnf
    refine iteK_dec_f hend ?_
    conv => lhs; whnf
    refine iteK_dec_f hend ?_
    conv => lhs; whnf
    refine iteK_dec_f hend ?_
    conv => lhs; whnf
    refine iteK_dec_f hend ?_
    conv => lhs; whnf
    refine iteK_dec_f hend ?_
    conv => lhs; whnf
    refine iteK_dec_f hend ?_
    conv => lhs; whnf
    refine iteK_dec_f hend ?_
    conv => lhs; whnf
    refine iteK_dec_f hend ?_
    conv => lhs; whnf
    refine Eq.trans (b := some (Fx.exit (10 : Nat), St.mk [((0 : Nat), AV.d (D.str s)), ((3 : Nat), AV.ptr (Nm.slot (3 : Nat)) (0 : Nat)), ((4 : Nat), AV.nilsl), ((5 : Nat), AV.d (D.int IntKind.i64 z)), ((6 : Nat), AV.ptr (Nm.slot (6 : Nat)) (0 : Nat)), ((7 : Nat), AV.d (D.int IntKind.i64 y))] [(Nm.slot (3 : Nat), AObj.cells [AV.d (D.int IntKind.i64 (0 : Int)), AV.d (D.int IntKind.i64 (0 : Int))]), (Nm.slot (6 : Nat), AObj.cells [AV.d (D.int IntKind.i64 (2 : Int)), AV.d (D.str []), AV.d (D.int IntKind.i64 (0 : Int)), AV.d (D.int IntKind.i64 z)])])) (by kernel_rfl) ?_
    rfl
  · have hi := (List.getElem?_eq_some_iff.1 hx).1
    have hend : y < (s.length : Int) := by omega
    have c1 := kind31 c j (by omega)
    generalize kindB c = q at *
    conv => lhs; whnf
    refine iteK_dec_t hend ?_
    conv => lhs; whnf
    refine iteK_dec_t hend ?_
    conv => lhs; whnf
    refine iteK_dec_t hend ?_
    conv => lhs; whnf
    refine nextK_of (aop_ixS rfl rfl rfl (ixS_at' hy hx)) ?_
    conv => lhs; whnf
    refine iteK_dec_t hend ?_
    conv => lhs; whnf
    refine nextK_of c1 ?_
    conv => lhs; whnf
    refine iteK_dec_t hend ?_
    conv => lhs; whnf
    refine iteK_dec_t hend ?_
    conv => lhs; whnf
    refine iteK_beq_f hc ?_
    conv => lhs; whnf
    refine iteK_beq_f hc ?_
    conv => lhs; whnf
    refine iteK_beq_f hc ?_
    conv => lhs; whnf
    refine nextK_of (aop_ixS rfl rfl rfl (ixS_at' hy hx)) ?_
    conv => lhs; whnf
    refine iteK_beq_f hc ?_
    conv => lhs; whnf
    refine nextK_of c1 ?_
    conv => lhs; whnf
    refine iteK_beq_f hc ?_
    conv => lhs; whnf
    refine iteK_dec_t hend ?_
    conv => lhs; whnf
    refine iteK_beq_f hc ?_
    conv => lhs; whnf
    refine iteK_dec_t hend ?_
    conv => lhs; whnf
    refine iteK_beq_f hc2 ?_
    conv => lhs; whnf
    refine Eq.trans (b := some (Fx.exit (10 : Nat), St.mk [((0 : Nat), AV.d (D.str s)), ((3 : Nat), AV.ptr (Nm.slot (3 : Nat)) (0 : Nat)), ((4 : Nat), AV.nilsl), ((5 : Nat), AV.d (D.int IntKind.i64 z)), ((6 : Nat), AV.ptr (Nm.slot (6 : Nat)) (0 : Nat)), ((7 : Nat), AV.d (D.int IntKind.i64 y))] [(Nm.slot (3 : Nat), AObj.cells [AV.d (D.int IntKind.i64 (0 : Int)), AV.d (D.int IntKind.i64 (0 : Int))]), (Nm.slot (6 : Nat), AObj.cells [AV.d (D.int IntKind.i64 (2 : Int)), AV.d (D.str []), AV.d (D.int IntKind.i64 (0 : Int)), AV.d (D.int IntKind.i64 z)])])) (by kernel_rfl) ?_
    rfl
theorem a_nextN (j : Nat) (hj : 100 < j) (s : List UInt8) (hs : s.length ≤ 4096) (z : Int) (y : Int) (i : Nat) (hy : y = (i : Int)) (c : UInt8) (hx : s[i]? = some c) (hk : kindB c = 2 ∨ kindB c = 1) {lp : LP} (hlp : lp = lpOf Try.prog cfg (icall Try.prog cfg j) Try.f19.ntmps 19 j (([] : Hp).map (·.1))) (lf : Nat) (st : St) (hp : prune [] [0, 3, 4, 5, 6, 7] st = some ⟨[(0, .d (.str s)), (3, .ptr (.slot 3) 0), (4, .nilsl), (5, .d (.int .i64 z)), (6, .ptr (.slot 6) 0), (7, .d (.int .i64 y))], [(.slot 3, .cells [.d (.int .i64 0), .d (.int .i64 0)]), (.slot 6, .cells [.d (.int .i64 2), .d (.str []), .d (.int .i64 0), .d (.int .i64 z)])]⟩) (r : Option (Fx × St))
    (hih : ∀ st', prune [] [0, 3, 4, 5, 6, 7] st' = some ⟨[(0, .d (.str s)), (3, .ptr (.slot 3) 0), (4, .nilsl), (5, .d (.int .i64 z)), (6, .ptr (.slot 6) 0), (7, .d (.int .i64 (IntKind.i64.wrap (y + 1))))], [(.slot 3, .cells [.d (.int .i64 0), .d (.int .i64 0)]), (.slot 6, .cells [.d (.int .i64 2), .d (.str []), .d (.int .i64 0), .d (.int .i64 z)])]⟩ → loopK Try.prog cfg (icall Try.prog cfg j) lp Try.f19.ntmps 19 [] (bodyAt Try.f19 24) lf st' (exitP [] (some [0, 3, 4, 5, 6, 7])) = r) : loopK Try.prog cfg (icall Try.prog cfg j) lp Try.f19.ntmps 19 [] (bodyAt Try.f19 24) (lf + 1) st (exitP [] (some [0, 3, 4, 5, 6, 7])) = r := by
  have hi := (List.getElem?_eq_some_iff.1 hx).1
  have hend : y < (s.length : Int) := by omega
  have c1 := kind31 c j (by omega)
  refine loop_step hp ?_
  rcases hk with hk | hk
  · rw [hk] at c1
    conv => lhs; whnf
    refine iteK_dec_t hend ?_
    conv => lhs; whnf
    refine iteK_dec_t hend ?_
    conv => lhs; whnf
    refine iteK_dec_t hend ?_
    conv => lhs; whnf
    refine nextK_of (aop_ixS rfl rfl rfl (ixS_at' hy hx)) ?_
    conv => lhs; whnf
    refine iteK_dec_t hend ?_
    conv => lhs; whnf
    refine nextK_of c1 ?_
    conv => lhs; whnf
    refine iteK_dec_t hend ?_
    conv => lhs; whnf
    refine iteK_dec_t hend ?_
    conv => lhs; whnf
    refine iteK_dec_t hend ?_
    conv => lhs; whnf
    refine iteK_dec_t hend ?_
    conv => lhs; whnf
    refine Eq.trans (hih _ rfl) ?_
    rfl
  · rw [hk] at c1
    conv => lhs; whnf
    refine iteK_dec_t hend ?_
    conv => lhs; whnf
    refine iteK_dec_t hend ?_
    conv => lhs; whnf
    refine iteK_dec_t hend ?_
    conv => lhs; whnf
    refine nextK_of (aop_ixS rfl rfl rfl (ixS_at' hy hx)) ?_
    conv => lhs; whnf
    refine iteK_dec_t hend ?_
    conv => lhs; whnf
    refine nextK_of c1 ?_
    conv => lhs; whnf
    refine iteK_dec_t hend ?_
    conv => lhs; whnf
    refine iteK_dec_t hend ?_
    conv => lhs; whnf
    refine nextK_of (aop_ixS rfl rfl rfl (ixS_at' hy hx)) ?_
    conv => lhs; whnf
    refine nextK_of c1 ?_
    conv => lhs; whnf
    refine iteK_dec_t hend ?_
    conv => lhs; whnf
    refine iteK_dec_t hend ?_
    conv => lhs; whnf
    refine Eq.trans (hih _ rfl) ?_
    rfl
theorem s_endN (j : Nat) (hj : 100 < j) (s : List UInt8) (hs : s.length ≤ 4096) (z : Int) (i : Nat) (hz : z = (i : Int)) (h : s.length ≤ i) {lp : LP} (hlp : lp = lpOf Try.prog cfg (icall Try.prog cfg j) Try.f19.ntmps 19 j (([] : Hp).map (·.1))) (lf : Nat) (st : St) (hp : prune [] [0, 3, 4, 5] st = some ⟨[(0, .d (.str s)), (3, .ptr (.slot 3) 0), (4, .nilsl), (5, .d (.int .i64 z))], [(.slot 3, .cells [.d (.int .i64 0), .d (.int .i64 0)])]⟩) : loopK Try.prog cfg (icall Try.prog cfg j) lp Try.f19.ntmps 19 [] (bodyAt Try.f19 5) (lf + 1) st (exitP [] (some [2, 3, 4])) = some (.exit 0, ⟨[(2, .undef), (3, .ptr (.slot 3) 0), (4, .nilsl)], [(.slot 3, .cells [.d (.int .i64 0), .d (.int .i64 0)])]⟩) := by
  refine loop_step hp ?_
  have hend : ¬ z < (s.length : Int) := by omega
  conv => lhs; whnf
  refine iteK_dec_f hend ?_
  conv => lhs; whnf
  refine Eq.trans (b := some (Fx.exit (0 : Nat), St.mk [((2 : Nat), AV.undef), ((3 : Nat), AV.ptr (Nm.slot (3 : Nat)) (0 : Nat)), ((4 : Nat), AV.nilsl)] [(Nm.slot (3 : Nat), AObj.cells [AV.d (D.int IntKind.i64 (0 : Int)), AV.d (D.int IntKind.i64 (0 : Int))])])) (by kernel_rfl) ?_
  rfl
theorem s_badN (j : Nat) (hj : 100 < j) (s : List UInt8) (hs : s.length ≤ 4096) (z : Int) (i : Nat) (hz : z = (i : Int)) (c : UInt8) (hx : s[i]? = some c) (hk : kindB c = -1) {lp : LP} (hlp : lp = lpOf Try.prog cfg (icall Try.prog cfg j) Try.f19.ntmps 19 j (([] : Hp).map (·.1))) (lf : Nat) (st : St) (hp : prune [] [0, 3, 4, 5] st = some ⟨[(0, .d (.str s)), (3, .ptr (.slot 3) 0), (4, .nilsl), (5, .d (.int .i64 z))], [(.slot 3, .cells [.d (.int .i64 0), .d (.int .i64 0)])]⟩) : loopK Try.prog cfg (icall Try.prog cfg j) lp Try.f19.ntmps 19 [] (bodyAt Try.f19 5) (lf + 1) st (exitP [] (some [2, 3, 4])) = some (.ret, ⟨[(2, .nilsl), (3, .ptr (.slot 3) 0), (4, .nilsl)], [(.slot 3, .cells [.d (.int .i64 3), .d (.int .i64 z)])]⟩) := by
  have hi := (List.getElem?_eq_some_iff.1 hx).1
  have hend : z < (s.length : Int) := by omega
  have c1 := kind31 c j (by omega)
  rw [hk] at c1
  refine loop_step hp ?_
  conv => lhs; whnf
  refine iteK_dec_t hend ?_
  conv => lhs; whnf
  refine nextK_of (aop_ixS rfl rfl rfl (ixS_at' hz hx)) ?_
  conv => lhs; whnf
  refine nextK_of c1 ?_
  conv => lhs; whnf
  refine Eq.trans (b := some (Fx.ret, St.mk [((2 : Nat), AV.nilsl), ((3 : Nat), AV.ptr (Nm.slot (3 : Nat)) (0 : Nat)), ((4 : Nat), AV.nilsl)] [(Nm.slot (3 : Nat), AObj.cells [AV.d (D.int IntKind.i64 (3 : Int)), AV.d (D.int IntKind.i64 z)])])) (by kernel_rfl) ?_
  rfl
theorem s_blankN (j : Nat) (hj : 100 < j) (s : List UInt8) (hs : s.length ≤ 4096) (z : Int) (i : Nat) (hz : z = (i : Int)) (c : UInt8) (hx : s[i]? = some c) (hk : kindB c = 0) {lp : LP} (hlp : lp = lpOf Try.prog cfg (icall Try.prog cfg j) Try.f19.ntmps 19 j (([] : Hp).map (·.1))) (lf : Nat) (st : St) (hp : prune [] [0, 3, 4, 5] st = some ⟨[(0, .d (.str s)), (3, .ptr (.slot 3) 0), (4, .nilsl), (5, .d (.int .i64 z))], [(.slot 3, .cells [.d (.int .i64 0), .d (.int .i64 0)])]⟩) (r : Option (Fx × St))
    (hih : ∀ st', prune [] [0, 3, 4, 5] st' = some ⟨[(0, .d (.str s)), (3, .ptr (.slot 3) 0), (4, .nilsl), (5, .d (.int .i64 (IntKind.i64.wrap (z + 1))))], [(.slot 3, .cells [.d (.int .i64 0), .d (.int .i64 0)])]⟩ → loopK Try.prog cfg (icall Try.prog cfg j) lp Try.f19.ntmps 19 [] (bodyAt Try.f19 5) lf st' (exitP [] (some [2, 3, 4])) = r) : loopK Try.prog cfg (icall Try.prog cfg j) lp Try.f19.ntmps 19 [] (bodyAt Try.f19 5) (lf + 1) st (exitP [] (some [2, 3, 4])) = r := by
  have hi := (List.getElem?_eq_some_iff.1 hx).1
  have hend : z < (s.length : Int) := by omega
  have c1 := kind31 c j (by omega)
  rw [hk] at c1
  refine loop_step hp ?_
  conv => lhs; whnf
  refine iteK_dec_t hend ?_
  conv => lhs; whnf
  refine nextK_of (aop_ixS rfl rfl rfl (ixS_at' hz hx)) ?_
  conv => lhs; whnf
  refine nextK_of c1 ?_
  conv => lhs; whnf
  refine Eq.trans (hih _ rfl) ?_
  rfl
theorem s_signN (j : Nat) (hj : 100 < j) (s : List UInt8) (hs : s.length ≤ 4096) (z : Int) (i : Nat) (hz : z = (i : Int)) (c : UInt8) (hx : s[i]? = some c) (hk : kindB c = 3) {lp : LP} (hlp : lp = lpOf Try.prog cfg (icall Try.prog cfg j) Try.f19.ntmps 19 j (([] : Hp).map (·.1))) (lf : Nat) (st : St) (hp : prune [] [0, 3, 4, 5] st = some ⟨[(0, .d (.str s)), (3, .ptr (.slot 3) 0), (4, .nilsl), (5, .d (.int .i64 z))], [(.slot 3, .cells [.d (.int .i64 0), .d (.int .i64 0)])]⟩) (r : Option (Fx × St))
    (hih : ∀ st', prune [] [0, 3, 4, 5] st' = some ⟨[(0, .d (.str s)), (3, .ptr (.slot 3) 0), (4, .own (.slot 124) 0 1), (5, .d (.int .i64 (IntKind.i64.wrap (z + 1))))], [(.slot 3, .cells [.d (.int .i64 0), .d (.int .i64 0)]), (.slot 124, .arr 54 4 0 [[.int .i64 3, .str ((s.take (i + 1)).drop i), .int .i64 0, .int .i64 z]])]⟩ → loopK Try.prog cfg (icall Try.prog cfg j) lp Try.f19.ntmps 19 [] (bodyAt Try.f19 5) lf st' (exitP [] (some [2, 3, 4])) = r) : loopK Try.prog cfg (icall Try.prog cfg j) lp Try.f19.ntmps 19 [] (bodyAt Try.f19 5) (lf + 1) st (exitP [] (some [2, 3, 4])) = r := by
  have hi := (List.getElem?_eq_some_iff.1 hx).1
  have hend : z < (s.length : Int) := by omega
  have c1 := kind31 c j (by omega)
  rw [hk] at c1
  obtain ⟨b, hb⟩ : ∃ b, b = i + 1 := ⟨_, rfl⟩
  have hy : IntKind.i64.wrap (z + 1) = (b : Int) := by rw [Go.Rx.wrap_i64 (by omega) (by omega)]; omega
  rw [← hb] at hih
  refine loop_step hp ?_
  conv => lhs; whnf
  refine iteK_dec_t hend ?_
  conv => lhs; whnf
  refine nextK_of (aop_ixS rfl rfl rfl (ixS_at' hz hx)) ?_
  conv => lhs; whnf
  refine nextK_of c1 ?_
  conv => lhs; whnf
  refine nextK_of (aop_part (a := i) (b := b) rfl rfl rfl rfl (bnds_in hz hy (by omega) (by omega))) ?_
  conv => lhs; whnf
  refine Eq.trans (hih _ rfl) ?_
  rfl
theorem s_numFN (j : Nat) (hj : 100 < j) (s : List UInt8) (hs : s.length ≤ 4096) (z : Int) (i : Nat) (hz : z = (i : Int)) (c : UInt8) (hx : s[i]? = some c) (hk : kindB c = 1) {lp : LP} (hlp : lp = lpOf Try.prog cfg (icall Try.prog cfg j) Try.f19.ntmps 19 j (([] : Hp).map (·.1))) (nv' y' : Int) (h16 : ∀ st', prune [] [0, 3, 4, 5, 6, 7] st' = some ⟨[(0, .d (.str s)), (3, .ptr (.slot 3) 0), (4, .nilsl), (5, .d (.int .i64 z)), (6, .ptr (.slot 6) 0), (7, .d (.int .i64 (IntKind.i64.wrap (z + 1))))], [(.slot 3, .cells [.d (.int .i64 0), .d (.int .i64 0)]), (.slot 6, .cells [.d (.int .i64 1), .d (.str []), .d (.int .i64 (IntKind.i64.wrap (IntKind.u8.wrap ((c.toNat : Int) - 48)))), .d (.int .i64 z)])]⟩ → loopK Try.prog cfg (icall Try.prog cfg j) lp Try.f19.ntmps 19 [] (bodyAt Try.f19 16) j st' (exitP [] (some [0, 2, 3, 4, 6, 7])) = some (.ret, ⟨[(0, .d (.str s)), (2, .nilsl), (3, .ptr (.slot 3) 0), (4, .nilsl), (6, .ptr (.slot 6) 0), (7, .d (.int .i64 y'))], [(.slot 3, .cells [.d (.int .i64 13), .d (.int .i64 z)]), (.slot 6, .cells [.d (.int .i64 1), .d (.str []), .d (.int .i64 nv'), .d (.int .i64 z)])]⟩)) (lf : Nat) (st : St) (hp : prune [] [0, 3, 4, 5] st = some ⟨[(0, .d (.str s)), (3, .ptr (.slot 3) 0), (4, .nilsl), (5, .d (.int .i64 z))], [(.slot 3, .cells [.d (.int .i64 0), .d (.int .i64 0)])]⟩) : loopK Try.prog cfg (icall Try.prog cfg j) lp Try.f19.ntmps 19 [] (bodyAt Try.f19 5) (lf + 1) st (exitP [] (some [2, 3, 4])) = some (.ret, ⟨[(2, .nilsl), (3, .ptr (.slot 3) 0), (4, .nilsl)], [(.slot 3, .cells [.d (.int .i64 13), .d (.int .i64 z)])]⟩) := by
  have hi := (List.getElem?_eq_some_iff.1 hx).1
  have hend : z < (s.length : Int) := by omega
  have c1 := kind31 c j (by omega)
  rw [hk] at c1
  refine loop_step hp ?_
  conv => lhs; whnf
  refine iteK_dec_t hend ?_
  conv => lhs; whnf
  refine nextK_of (aop_ixS rfl rfl rfl (ixS_at' hz hx)) ?_
  conv => lhs; whnf
  refine nextK_of c1 ?_
  conv => lhs; whnf
  refine nextK_of (aop_ixS rfl rfl rfl (ixS_at' hz hx)) ?_
  conv => lhs; whnf
  refine nextK_of (loop_at hlp (h16 _ rfl)) ?_
  conv => lhs; whnf
  refine Eq.trans (b := some (Fx.ret, St.mk [((2 : Nat), AV.nilsl), ((3 : Nat), AV.ptr (Nm.slot (3 : Nat)) (0 : Nat)), ((4 : Nat), AV.nilsl)] [(Nm.slot (3 : Nat), AObj.cells [AV.d (D.int IntKind.i64 (13 : Int)), AV.d (D.int IntKind.i64 z)])])) (by kernel_rfl) ?_
  rfl
theorem s_numN (j : Nat) (hj : 100 < j) (s : List UInt8) (hs : s.length ≤ 4096) (z : Int) (i : Nat) (hz : z = (i : Int)) (c : UInt8) (hx : s[i]? = some c) (hk : kindB c = 1) {lp : LP} (hlp : lp = lpOf Try.prog cfg (icall Try.prog cfg j) Try.f19.ntmps 19 j (([] : Hp).map (·.1))) (nv' y' : Int) (b : Nat) (hy : y' = (b : Int)) (h16 : ∀ st', prune [] [0, 3, 4, 5, 6, 7] st' = some ⟨[(0, .d (.str s)), (3, .ptr (.slot 3) 0), (4, .nilsl), (5, .d (.int .i64 z)), (6, .ptr (.slot 6) 0), (7, .d (.int .i64 (IntKind.i64.wrap (z + 1))))], [(.slot 3, .cells [.d (.int .i64 0), .d (.int .i64 0)]), (.slot 6, .cells [.d (.int .i64 1), .d (.str []), .d (.int .i64 (IntKind.i64.wrap (IntKind.u8.wrap ((c.toNat : Int) - 48)))), .d (.int .i64 z)])]⟩ → loopK Try.prog cfg (icall Try.prog cfg j) lp Try.f19.ntmps 19 [] (bodyAt Try.f19 16) j st' (exitP [] (some [0, 2, 3, 4, 6, 7])) = some (.exit 8, ⟨[(0, .d (.str s)), (2, .undef), (3, .ptr (.slot 3) 0), (4, .nilsl), (6, .ptr (.slot 6) 0), (7, .d (.int .i64 y'))], [(.slot 3, .cells [.d (.int .i64 0), .d (.int .i64 0)]), (.slot 6, .cells [.d (.int .i64 1), .d (.str []), .d (.int .i64 nv'), .d (.int .i64 z)])]⟩)) (hb : s.length ≤ b ∨ ∃ c', s[b]? = some c' ∧ kindB c' ≠ 2) (lf : Nat) (st : St) (hp : prune [] [0, 3, 4, 5] st = some ⟨[(0, .d (.str s)), (3, .ptr (.slot 3) 0), (4, .nilsl), (5, .d (.int .i64 z))], [(.slot 3, .cells [.d (.int .i64 0), .d (.int .i64 0)])]⟩) (r : Option (Fx × St))
    (hih : ∀ st', prune [] [0, 3, 4, 5] st' = some ⟨[(0, .d (.str s)), (3, .ptr (.slot 3) 0), (4, .own (.slot 124) 0 1), (5, .d (.int .i64 y'))], [(.slot 3, .cells [.d (.int .i64 0), .d (.int .i64 0)]), (.slot 124, .arr 54 4 0 [[.int .i64 1, .str [], .int .i64 nv', .int .i64 z]])]⟩ → loopK Try.prog cfg (icall Try.prog cfg j) lp Try.f19.ntmps 19 [] (bodyAt Try.f19 5) lf st' (exitP [] (some [2, 3, 4])) = r) : loopK Try.prog cfg (icall Try.prog cfg j) lp Try.f19.ntmps 19 [] (bodyAt Try.f19 5) (lf + 1) st (exitP [] (some [2, 3, 4])) = r := by
  have hi := (List.getElem?_eq_some_iff.1 hx).1
  have hend : z < (s.length : Int) := by omega
  have c1 := kind31 c j (by omega)
  rw [hk] at c1
  refine loop_step hp ?_
  rcases hb with hb | ⟨c', hx', hc'⟩
  · have hend2 : ¬ y' < (s.length : Int) := by omega
    conv => lhs; whnf
    refine iteK_dec_t hend ?_
    conv => lhs; whnf
    refine nextK_of (aop_ixS rfl rfl rfl (ixS_at' hz hx)) ?_
    conv => lhs; whnf
    refine nextK_of c1 ?_
    conv => lhs; whnf
    refine nextK_of (aop_ixS rfl rfl rfl (ixS_at' hz hx)) ?_
    conv => lhs; whnf
    refine nextK_of (loop_at hlp (h16 _ rfl)) ?_
    conv => lhs; whnf
    refine iteK_dec_f hend2 ?_
    conv => lhs; whnf
    refine iteK_dec_f hend2 ?_
    conv => lhs; whnf
    refine iteK_dec_f hend2 ?_
    conv => lhs; whnf
    refine iteK_dec_f hend2 ?_
    conv => lhs; whnf
    refine iteK_dec_f hend2 ?_
    conv => lhs; whnf
    refine iteK_dec_f hend2 ?_
    conv => lhs; whnf
    refine Eq.trans (hih _ rfl) ?_
    rfl
  · have hi' := (List.getElem?_eq_some_iff.1 hx').1
    have hend2 : y' < (s.length : Int) := by omega
    have c2 := kind31 c' j (by omega)
    generalize kindB c' = q at *
    conv => lhs; whnf
    refine iteK_dec_t hend ?_
    conv => lhs; whnf
    refine nextK_of (aop_ixS rfl rfl rfl (ixS_at' hz hx)) ?_
    conv => lhs; whnf
    refine nextK_of c1 ?_
    conv => lhs; whnf
    refine nextK_of (aop_ixS rfl rfl rfl (ixS_at' hz hx)) ?_
    conv => lhs; whnf
    refine nextK_of (loop_at hlp (h16 _ rfl)) ?_
    conv => lhs; whnf
    refine iteK_dec_t hend2 ?_
    conv => lhs; whnf
    refine iteK_dec_t hend2 ?_
    conv => lhs; whnf
    refine iteK_dec_t hend2 ?_
    conv => lhs; whnf
    refine nextK_of (aop_ixS rfl rfl rfl (ixS_at' hy hx')) ?_
    conv => lhs; whnf
    refine iteK_dec_t hend2 ?_
    conv => lhs; whnf
    refine nextK_of c2 ?_
    conv => lhs; whnf
    refine iteK_dec_t hend2 ?_
    conv => lhs; whnf
    refine iteK_dec_t hend2 ?_
    conv => lhs; whnf
    refine iteK_beq_f hc' ?_
    conv => lhs; whnf
    refine Eq.trans (hih _ rfl) ?_
    rfl
theorem s_numGN (j : Nat) (hj : 100 < j) (s : List UInt8) (hs : s.length ≤ 4096) (z : Int) (i : Nat) (hz : z = (i : Int)) (c : UInt8) (hx : s[i]? = some c) (hk : kindB c = 1) {lp : LP} (hlp : lp = lpOf Try.prog cfg (icall Try.prog cfg j) Try.f19.ntmps 19 j (([] : Hp).map (·.1))) (nv' y' : Int) (b : Nat) (hy : y' = (b : Int)) (h16 : ∀ st', prune [] [0, 3, 4, 5, 6, 7] st' = some ⟨[(0, .d (.str s)), (3, .ptr (.slot 3) 0), (4, .nilsl), (5, .d (.int .i64 z)), (6, .ptr (.slot 6) 0), (7, .d (.int .i64 (IntKind.i64.wrap (z + 1))))], [(.slot 3, .cells [.d (.int .i64 0), .d (.int .i64 0)]), (.slot 6, .cells [.d (.int .i64 1), .d (.str []), .d (.int .i64 (IntKind.i64.wrap (IntKind.u8.wrap ((c.toNat : Int) - 48)))), .d (.int .i64 z)])]⟩ → loopK Try.prog cfg (icall Try.prog cfg j) lp Try.f19.ntmps 19 [] (bodyAt Try.f19 16) j st' (exitP [] (some [0, 2, 3, 4, 6, 7])) = some (.exit 8, ⟨[(0, .d (.str s)), (2, .undef), (3, .ptr (.slot 3) 0), (4, .nilsl), (6, .ptr (.slot 6) 0), (7, .d (.int .i64 y'))], [(.slot 3, .cells [.d (.int .i64 0), .d (.int .i64 0)]), (.slot 6, .cells [.d (.int .i64 1), .d (.str []), .d (.int .i64 nv'), .d (.int .i64 z)])]⟩)) (c' : UInt8) (hx' : s[b]? = some c') (hc' : kindB c' = 2) (lf : Nat) (st : St) (hp : prune [] [0, 3, 4, 5] st = some ⟨[(0, .d (.str s)), (3, .ptr (.slot 3) 0), (4, .nilsl), (5, .d (.int .i64 z))], [(.slot 3, .cells [.d (.int .i64 0), .d (.int .i64 0)])]⟩) : loopK Try.prog cfg (icall Try.prog cfg j) lp Try.f19.ntmps 19 [] (bodyAt Try.f19 5) (lf + 1) st (exitP [] (some [2, 3, 4])) = some (.ret, ⟨[(2, .nilsl), (3, .ptr (.slot 3) 0), (4, .nilsl)], [(.slot 3, .cells [.d (.int .i64 3), .d (.int .i64 y')])]⟩) := by
  have hi := (List.getElem?_eq_some_iff.1 hx).1
  have hend : z < (s.length : Int) := by omega
  have c1 := kind31 c j (by omega)
  rw [hk] at c1
  refine loop_step hp ?_
  have hi' := (List.getElem?_eq_some_iff.1 hx').1
  have hend2 : y' < (s.length : Int) := by omega
  have c2 := kind31 c' j (by omega)
  rw [hc'] at c2
  conv => lhs; whnf
  refine iteK_dec_t hend ?_
  conv => lhs; whnf
  refine nextK_of (aop_ixS rfl rfl rfl (ixS_at' hz hx)) ?_
  conv => lhs; whnf
  refine nextK_of c1 ?_
  conv => lhs; whnf
  refine nextK_of (aop_ixS rfl rfl rfl (ixS_at' hz hx)) ?_
  conv => lhs; whnf
  refine nextK_of (loop_at hlp (h16 _ rfl)) ?_
  conv => lhs; whnf
  refine iteK_dec_t hend2 ?_
  conv => lhs; whnf
  refine iteK_dec_t hend2 ?_
  conv => lhs; whnf
  refine iteK_dec_t hend2 ?_
  conv => lhs; whnf
  refine nextK_of (aop_ixS rfl rfl rfl (ixS_at' hy hx')) ?_
  conv => lhs; whnf
  refine iteK_dec_t hend2 ?_
  conv => lhs; whnf
  refine nextK_of c2 ?_
  conv => lhs; whnf
  refine iteK_dec_t hend2 ?_
  conv => lhs; whnf
  refine iteK_dec_t hend2 ?_
  conv => lhs; whnf
  refine Eq.trans (b := some (Fx.ret, St.mk [((2 : Nat), AV.nilsl), ((3 : Nat), AV.ptr (Nm.slot (3 : Nat)) (0 : Nat)), ((4 : Nat), AV.nilsl)] [(Nm.slot (3 : Nat), AObj.cells [AV.d (D.int IntKind.i64 (3 : Int)), AV.d (D.int IntKind.i64 y')])])) (by kernel_rfl) ?_
  rfl
theorem s_nameN (j : Nat) (hj : 100 < j) (s : List UInt8) (hs : s.length ≤ 4096) (z : Int) (i : Nat) (hz : z = (i : Int)) (c : UInt8) (hx : s[i]? = some c) (hk : kindB c = 2) {lp : LP} (hlp : lp = lpOf Try.prog cfg (icall Try.prog cfg j) Try.f19.ntmps 19 j (([] : Hp).map (·.1))) (y' : Int) (b : Nat) (hy : y' = (b : Int)) (hib : i ≤ b) (hbl : b ≤ s.length) (h24 : ∀ st', prune [] [0, 3, 4, 5, 6, 7] st' = some ⟨[(0, .d (.str s)), (3, .ptr (.slot 3) 0), (4, .nilsl), (5, .d (.int .i64 z)), (6, .ptr (.slot 6) 0), (7, .d (.int .i64 (IntKind.i64.wrap (z + 1))))], [(.slot 3, .cells [.d (.int .i64 0), .d (.int .i64 0)]), (.slot 6, .cells [.d (.int .i64 2), .d (.str []), .d (.int .i64 0), .d (.int .i64 z)])]⟩ → loopK Try.prog cfg (icall Try.prog cfg j) lp Try.f19.ntmps 19 [] (bodyAt Try.f19 24) j st' (exitP [] (some [0, 3, 4, 5, 6, 7])) = some (.exit 10, ⟨[(0, .d (.str s)), (3, .ptr (.slot 3) 0), (4, .nilsl), (5, .d (.int .i64 z)), (6, .ptr (.slot 6) 0), (7, .d (.int .i64 y'))], [(.slot 3, .cells [.d (.int .i64 0), .d (.int .i64 0)]), (.slot 6, .cells [.d (.int .i64 2), .d (.str []), .d (.int .i64 0), .d (.int .i64 z)])]⟩)) (hsm : ¬ IntKind.i64.wrap (y' - z) > 32) (lf : Nat) (st : St) (hp : prune [] [0, 3, 4, 5] st = some ⟨[(0, .d (.str s)), (3, .ptr (.slot 3) 0), (4, .nilsl), (5, .d (.int .i64 z))], [(.slot 3, .cells [.d (.int .i64 0), .d (.int .i64 0)])]⟩) (r : Option (Fx × St))
    (hih : ∀ st', prune [] [0, 3, 4, 5] st' = some ⟨[(0, .d (.str s)), (3, .ptr (.slot 3) 0), (4, .own (.slot 124) 0 1), (5, .d (.int .i64 y'))], [(.slot 3, .cells [.d (.int .i64 0), .d (.int .i64 0)]), (.slot 124, .arr 54 4 0 [[.int .i64 2, .str ((s.take b).drop i), .int .i64 0, .int .i64 z]])]⟩ → loopK Try.prog cfg (icall Try.prog cfg j) lp Try.f19.ntmps 19 [] (bodyAt Try.f19 5) lf st' (exitP [] (some [2, 3, 4])) = r) : loopK Try.prog cfg (icall Try.prog cfg j) lp Try.f19.ntmps 19 [] (bodyAt Try.f19 5) (lf + 1) st (exitP [] (some [2, 3, 4])) = r := by
  have hi := (List.getElem?_eq_some_iff.1 hx).1
  have hend : z < (s.length : Int) := by omega
  have c1 := kind31 c j (by omega)
  rw [hk] at c1
  refine loop_step hp ?_
  conv => lhs; whnf
  refine iteK_dec_t hend ?_
  conv => lhs; whnf
  refine nextK_of (aop_ixS rfl rfl rfl (ixS_at' hz hx)) ?_
  conv => lhs; whnf
  refine nextK_of c1 ?_
  conv => lhs; whnf
  refine nextK_of (loop_at hlp (h24 _ rfl)) ?_
  conv => lhs; whnf
  refine iteK_dec_f hsm ?_
  conv => lhs; whnf
  refine nextK_of (aop_part (a := i) (b := b) rfl rfl rfl rfl (bnds_in hz hy (by omega) (by omega))) ?_
  conv => lhs; whnf
  refine Eq.trans (hih _ rfl) ?_
  rfl
theorem s_nameFN (j : Nat) (hj : 100 < j) (s : List UInt8) (hs : s.length ≤ 4096) (z : Int) (i : Nat) (hz : z = (i : Int)) (c : UInt8) (hx : s[i]? = some c) (hk : kindB c = 2) {lp : LP} (hlp : lp = lpOf Try.prog cfg (icall Try.prog cfg j) Try.f19.ntmps 19 j (([] : Hp).map (·.1))) (y' : Int) (h24 : ∀ st', prune [] [0, 3, 4, 5, 6, 7] st' = some ⟨[(0, .d (.str s)), (3, .ptr (.slot 3) 0), (4, .nilsl), (5, .d (.int .i64 z)), (6, .ptr (.slot 6) 0), (7, .d (.int .i64 (IntKind.i64.wrap (z + 1))))], [(.slot 3, .cells [.d (.int .i64 0), .d (.int .i64 0)]), (.slot 6, .cells [.d (.int .i64 2), .d (.str []), .d (.int .i64 0), .d (.int .i64 z)])]⟩ → loopK Try.prog cfg (icall Try.prog cfg j) lp Try.f19.ntmps 19 [] (bodyAt Try.f19 24) j st' (exitP [] (some [0, 3, 4, 5, 6, 7])) = some (.exit 10, ⟨[(0, .d (.str s)), (3, .ptr (.slot 3) 0), (4, .nilsl), (5, .d (.int .i64 z)), (6, .ptr (.slot 6) 0), (7, .d (.int .i64 y'))], [(.slot 3, .cells [.d (.int .i64 0), .d (.int .i64 0)]), (.slot 6, .cells [.d (.int .i64 2), .d (.str []), .d (.int .i64 0), .d (.int .i64 z)])]⟩)) (hsm : IntKind.i64.wrap (y' - z) > 32) (lf : Nat) (st : St) (hp : prune [] [0, 3, 4, 5] st = some ⟨[(0, .d (.str s)), (3, .ptr (.slot 3) 0), (4, .nilsl), (5, .d (.int .i64 z))], [(.slot 3, .cells [.d (.int .i64 0), .d (.int .i64 0)])]⟩) : loopK Try.prog cfg (icall Try.prog cfg j) lp Try.f19.ntmps 19 [] (bodyAt Try.f19 5) (lf + 1) st (exitP [] (some [2, 3, 4])) = some (.ret, ⟨[(2, .nilsl), (3, .ptr (.slot 3) 0), (4, .nilsl)], [(.slot 3, .cells [.d (.int .i64 3), .d (.int .i64 z)])]⟩) := by
  have hi := (List.getElem?_eq_some_iff.1 hx).1
  have hend : z < (s.length : Int) := by omega
  have c1 := kind31 c j (by omega)
  rw [hk] at c1
  refine loop_step hp ?_
  conv => lhs; whnf
  refine iteK_dec_t hend ?_
  conv => lhs; whnf
  refine nextK_of (aop_ixS rfl rfl rfl (ixS_at' hz hx)) ?_
  conv => lhs; whnf
  refine nextK_of c1 ?_
  conv => lhs; whnf
  refine nextK_of (loop_at hlp (h24 _ rfl)) ?_
  conv => lhs; whnf
  refine iteK_dec_t hsm ?_
  conv => lhs; whnf
  refine Eq.trans (b := some (Fx.ret, St.mk [((2 : Nat), AV.nilsl), ((3 : Nat), AV.ptr (Nm.slot (3 : Nat)) (0 : Nat)), ((4 : Nat), AV.nilsl)] [(Nm.slot (3 : Nat), AObj.cells [AV.d (D.int IntKind.i64 (3 : Int)), AV.d (D.int IntKind.i64 z)])])) (by kernel_rfl) ?_
  rfl
theorem n_endO (j : Nat) (hj : 100 < j) (s : List UInt8) (hs : s.length ≤ 4096) (l : Nat) (es : List (List D)) (z : Int) (y nv : Int) (i : Nat) (hy : y = (i : Int)) (hend : s.length ≤ i ∨ ∃ c, s[i]? = some c ∧ kindB c ≠ 1) {lp : LP} (hlp : lp = lpOf Try.prog cfg (icall Try.prog cfg j) Try.f19.ntmps 19 j (([] : Hp).map (·.1))) (lf : Nat) (st : St) (hp : prune [] [0, 3, 4, 5, 6, 7] st = some ⟨[(0, .d (.str s)), (3, .ptr (.slot 3) 0), (4, .own (.slot 124) 0 l), (5, .d (.int .i64 z)), (6, .ptr (.slot 6) 0), (7, .d (.int .i64 y))], [(.slot 3, .cells [.d (.int .i64 0), .d (.int .i64 0)]), (.slot 124, .arr 54 4 0 es), (.slot 6, .cells [.d (.int .i64 1), .d (.str []), .d (.int .i64 nv), .d (.int .i64 z)])]⟩) : loopK Try.prog cfg (icall Try.prog cfg j) lp Try.f19.ntmps 19 [] (bodyAt Try.f19 16) (lf + 1) st (exitP [] (some [0, 2, 3, 4, 6, 7])) = some (.exit 8, ⟨[(0, .d (.str s)), (2, .undef), (3, .ptr (.slot 3) 0), (4, .own (.slot 124) 0 l), (6, .ptr (.slot 6) 0), (7, .d (.int .i64 y))], [(.slot 3, .cells [.d (.int .i64 0), .d (.int .i64 0)]), (.slot 124, .arr 54 4 0 es), (.slot 6, .cells [.d (.int .i64 1), .d (.str []), .d (.int .i64 nv), .d (.int .i64 z)])]⟩) := by
  refine loop_step hp ?_
  rcases hend with h | ⟨c, hx, hc⟩
  · have hend : ¬ y < (s.length : Int) := by omega
    conv => lhs; whnf
    refine iteK_dec_f hend ?_
    conv => lhs; whnf
    refine iteK_dec_f hend ?_
    conv => lhs; whnf
    refine iteK_dec_f hend ?_
    conv => lhs; whnf
    refine iteK_dec_f hend ?_
    conv => lhs; whnf
    refine iteK_dec_f hend ?_
    conv => lhs; whnf
    refine iteK_dec_f hend ?_
    conv => lhs; whnf
    refine Eq.trans (b := some (Fx.exit (8 : Nat), St.mk [((0 : Nat), AV.d (D.str s)), ((2 : Nat), AV.undef), ((3 : Nat), AV.ptr (Nm.slot (3 : Nat)) (0 : Nat)), ((4 : Nat), AV.own (Nm.slot (124 : Nat)) (nat_lit 0) l), ((6 : Nat), AV.ptr (Nm.slot (6 : Nat)) (0 : Nat)), ((7 : Nat), AV.d (D.int IntKind.i64 y))] [(Nm.slot (3 : Nat), AObj.cells [AV.d (D.int IntKind.i64 (0 : Int)), AV.d (D.int IntKind.i64 (0 : Int))]), (Nm.slot (124 : Nat), AObj.arr (54 : Nat) (4 : Nat) (nat_lit 0) es), (Nm.slot (6 : Nat), AObj.cells [AV.d (D.int IntKind.i64 (1 : Int)), AV.d (D.str []), AV.d (D.int IntKind.i64 nv), AV.d (D.int IntKind.i64 z)])])) (by kernel_rfl) ?_
    rfl
  · have hi := (List.getElem?_eq_some_iff.1 hx).1
    have hend : y < (s.length : Int) := by omega
    have c1 := kind31 c j (by omega)
    generalize kindB c = q at *
    conv => lhs; whnf
    refine iteK_dec_t hend ?_
    conv => lhs; whnf
    refine iteK_dec_t hend ?_
    conv => lhs; whnf
    refine iteK_dec_t hend ?_
    conv => lhs; whnf
    refine nextK_of (aop_ixS rfl rfl rfl (ixS_at' hy hx)) ?_
    conv => lhs; whnf
    refine iteK_dec_t hend ?_
    conv => lhs; whnf
    refine nextK_of c1 ?_
    conv => lhs; whnf
    refine iteK_dec_t hend ?_
    conv => lhs; whnf
    refine iteK_dec_t hend ?_
    conv => lhs; whnf
    refine iteK_beq_f hc ?_
    conv => lhs; whnf
    refine Eq.trans (b := some (Fx.exit (8 : Nat), St.mk [((0 : Nat), AV.d (D.str s)), ((2 : Nat), AV.undef), ((3 : Nat), AV.ptr (Nm.slot (3 : Nat)) (0 : Nat)), ((4 : Nat), AV.own (Nm.slot (124 : Nat)) (nat_lit 0) l), ((6 : Nat), AV.ptr (Nm.slot (6 : Nat)) (0 : Nat)), ((7 : Nat), AV.d (D.int IntKind.i64 y))] [(Nm.slot (3 : Nat), AObj.cells [AV.d (D.int IntKind.i64 (0 : Int)), AV.d (D.int IntKind.i64 (0 : Int))]), (Nm.slot (124 : Nat), AObj.arr (54 : Nat) (4 : Nat) (nat_lit 0) es), (Nm.slot (6 : Nat), AObj.cells [AV.d (D.int IntKind.i64 (1 : Int)), AV.d (D.str []), AV.d (D.int IntKind.i64 nv), AV.d (D.int IntKind.i64 z)])])) (by kernel_rfl) ?_
    rfl
theorem n_ovfO (j : Nat) (hj : 100 < j) (s : List UInt8) (hs : s.length ≤ 4096) (l : Nat) (es : List (List D)) (z : Int) (y nv : Int) (i : Nat) (hy : y = (i : Int)) (c : UInt8) (hx : s[i]? = some c) (hk : kindB c = 1) (hov : nv > ((9223372036854775807 : Int) - ((c.toNat - 48 : Nat) : Int)).tdiv 10) {lp : LP} (hlp : lp = lpOf Try.prog cfg (icall Try.prog cfg j) Try.f19.ntmps 19 j (([] : Hp).map (·.1))) (lf : Nat) (st : St) (hp : prune [] [0, 3, 4, 5, 6, 7] st = some ⟨[(0, .d (.str s)), (3, .ptr (.slot 3) 0), (4, .own (.slot 124) 0 l), (5, .d (.int .i64 z)), (6, .ptr (.slot 6) 0), (7, .d (.int .i64 y))], [(.slot 3, .cells [.d (.int .i64 0), .d (.int .i64 0)]), (.slot 124, .arr 54 4 0 es), (.slot 6, .cells [.d (.int .i64 1), .d (.str []), .d (.int .i64 nv), .d (.int .i64 z)])]⟩) : loopK Try.prog cfg (icall Try.prog cfg j) lp Try.f19.ntmps 19 [] (bodyAt Try.f19 16) (lf + 1) st (exitP [] (some [0, 2, 3, 4, 6, 7])) = some (.ret, ⟨[(0, .d (.str s)), (2, .nilsl), (3, .ptr (.slot 3) 0), (4, .own (.slot 124) 0 l), (6, .ptr (.slot 6) 0), (7, .d (.int .i64 y))], [(.slot 3, .cells [.d (.int .i64 13), .d (.int .i64 z)]), (.slot 124, .arr 54 4 0 es), (.slot 6, .cells [.d (.int .i64 1), .d (.str []), .d (.int .i64 nv), .d (.int .i64 z)])]⟩) := by
  have hi := (List.getElem?_eq_some_iff.1 hx).1
  have hend : y < (s.length : Int) := by omega
  have c1 := kind31 c j (by omega)
  have hd := digit hk
  have hkk := kind_1 hk
  rw [hk] at c1
  have hov2 : nv > IntKind.i64.wrap ((IntKind.i64.wrap (9223372036854775807 - IntKind.i64.wrap (IntKind.u8.wrap ((c.toNat : Int) - 48)))).tdiv 10) := by
    rw [hd, Go.Rx.wrap_i64 (n := 9223372036854775807 - _) (by omega) (by omega), Go.Rx.wrap_i64 (by rw [Int.tdiv_eq_ediv_of_nonneg (by omega)]; omega) (by rw [Int.tdiv_eq_ediv_of_nonneg (by omega)]; omega)]
    exact hov
  refine loop_step hp ?_
  conv => lhs; whnf
  refine iteK_dec_t hend ?_
  conv => lhs; whnf
  refine iteK_dec_t hend ?_
  conv => lhs; whnf
  refine iteK_dec_t hend ?_
  conv => lhs; whnf
  refine nextK_of (aop_ixS rfl rfl rfl (ixS_at' hy hx)) ?_
  conv => lhs; whnf
  refine iteK_dec_t hend ?_
  conv => lhs; whnf
  refine nextK_of c1 ?_
  conv => lhs; whnf
  refine iteK_dec_t hend ?_
  conv => lhs; whnf
  refine iteK_dec_t hend ?_
  conv => lhs; whnf
  refine nextK_of (aop_ixS rfl rfl rfl (ixS_at' hy hx)) ?_
  conv => lhs; whnf
  refine iteK_dec_t hov2 ?_
  conv => lhs; whnf
  refine Eq.trans (b := some (Fx.ret, St.mk [((0 : Nat), AV.d (D.str s)), ((2 : Nat), AV.nilsl), ((3 : Nat), AV.ptr (Nm.slot (3 : Nat)) (0 : Nat)), ((4 : Nat), AV.own (Nm.slot (124 : Nat)) (nat_lit 0) l), ((6 : Nat), AV.ptr (Nm.slot (6 : Nat)) (0 : Nat)), ((7 : Nat), AV.d (D.int IntKind.i64 y))] [(Nm.slot (3 : Nat), AObj.cells [AV.d (D.int IntKind.i64 (13 : Int)), AV.d (D.int IntKind.i64 z)]), (Nm.slot (124 : Nat), AObj.arr (54 : Nat) (4 : Nat) (nat_lit 0) es), (Nm.slot (6 : Nat), AObj.cells [AV.d (D.int IntKind.i64 (1 : Int)), AV.d (D.str []), AV.d (D.int IntKind.i64 nv), AV.d (D.int IntKind.i64 z)])])) (by kernel_rfl) ?_
  rfl
theorem n_nextO (j : Nat) (hj : 100 < j) (s : List UInt8) (hs : s.length ≤ 4096) (l : Nat) (es : List (List D)) (z : Int) (y nv : Int) (hnv : 0 ≤ nv) (i : Nat) (hy : y = (i : Int)) (c : UInt8) (hx : s[i]? = some c) (hk : kindB c = 1) (hov : ¬ nv > ((9223372036854775807 : Int) - ((c.toNat - 48 : Nat) : Int)).tdiv 10) {lp : LP} (hlp : lp = lpOf Try.prog cfg (icall Try.prog cfg j) Try.f19.ntmps 19 j (([] : Hp).map (·.1))) (lf : Nat) (st : St) (hp : prune [] [0, 3, 4, 5, 6, 7] st = some ⟨[(0, .d (.str s)), (3, .ptr (.slot 3) 0), (4, .own (.slot 124) 0 l), (5, .d (.int .i64 z)), (6, .ptr (.slot 6) 0), (7, .d (.int .i64 y))], [(.slot 3, .cells [.d (.int .i64 0), .d (.int .i64 0)]), (.slot 124, .arr 54 4 0 es), (.slot 6, .cells [.d (.int .i64 1), .d (.str []), .d (.int .i64 nv), .d (.int .i64 z)])]⟩) (r : Option (Fx × St))
    (hih : ∀ st', prune [] [0, 3, 4, 5, 6, 7] st' = some ⟨[(0, .d (.str s)), (3, .ptr (.slot 3) 0), (4, .own (.slot 124) 0 l), (5, .d (.int .i64 z)), (6, .ptr (.slot 6) 0), (7, .d (.int .i64 (IntKind.i64.wrap (y + 1))))], [(.slot 3, .cells [.d (.int .i64 0), .d (.int .i64 0)]), (.slot 124, .arr 54 4 0 es), (.slot 6, .cells [.d (.int .i64 1), .d (.str []), .d (.int .i64 (IntKind.i64.wrap (IntKind.i64.wrap (nv * 10) + IntKind.i64.wrap (IntKind.u8.wrap ((c.toNat : Int) - 48))))), .d (.int .i64 z)])]⟩ → loopK Try.prog cfg (icall Try.prog cfg j) lp Try.f19.ntmps 19 [] (bodyAt Try.f19 16) lf st' (exitP [] (some [0, 2, 3, 4, 6, 7])) = r) : loopK Try.prog cfg (icall Try.prog cfg j) lp Try.f19.ntmps 19 [] (bodyAt Try.f19 16) (lf + 1) st (exitP [] (some [0, 2, 3, 4, 6, 7])) = r := by
  have hi := (List.getElem?_eq_some_iff.1 hx).1
  have hend : y < (s.length : Int) := by omega
  have c1 := kind31 c j (by omega)
  have hd := digit hk
  have hkk := kind_1 hk
  rw [hk] at c1
  have hov2 : ¬ nv > IntKind.i64.wrap ((IntKind.i64.wrap (9223372036854775807 - IntKind.i64.wrap (IntKind.u8.wrap ((c.toNat : Int) - 48)))).tdiv 10) := by
    rw [hd, Go.Rx.wrap_i64 (n := 9223372036854775807 - _) (by omega) (by omega), Go.Rx.wrap_i64 (by rw [Int.tdiv_eq_ediv_of_nonneg (by omega)]; omega) (by rw [Int.tdiv_eq_ediv_of_nonneg (by omega)]; omega)]
    exact hov
  refine loop_step hp ?_
  conv => lhs; whnf
  refine iteK_dec_t hend ?_
  conv => lhs; whnf
  refine iteK_dec_t hend ?_
  conv => lhs; whnf
  refine iteK_dec_t hend ?_
  conv => lhs; whnf
  refine nextK_of (aop_ixS rfl rfl rfl (ixS_at' hy hx)) ?_
  conv => lhs; whnf
  refine iteK_dec_t hend ?_
  conv => lhs; whnf
  refine nextK_of c1 ?_
  conv => lhs; whnf
  refine iteK_dec_t hend ?_
  conv => lhs; whnf
  refine iteK_dec_t hend ?_
  conv => lhs; whnf
  refine nextK_of (aop_ixS rfl rfl rfl (ixS_at' hy hx)) ?_
  conv => lhs; whnf
  refine iteK_dec_f hov2 ?_
  conv => lhs; whnf
  refine Eq.trans (hih _ rfl) ?_
  rfl
theorem a_endO (j : Nat) (hj : 100 < j) (s : List UInt8) (hs : s.length ≤ 4096) (l : Nat) (es : List (List D)) (z : Int) (y : Int) (i : Nat) (hy : y = (i : Int)) (hend : s.length ≤ i ∨ ∃ c, s[i]? = some c ∧ kindB c ≠ 2 ∧ kindB c ≠ 1) {lp : LP} (hlp : lp = lpOf Try.prog cfg (icall Try.prog cfg j) Try.f19.ntmps 19 j (([] : Hp).map (·.1))) (lf : Nat) (st : St) (hp : prune [] [0, 3, 4, 5, 6, 7] st = some ⟨[(0, .d (.str s)), (3, .ptr (.slot 3) 0), (4, .own (.slot 124) 0 l), (5, .d (.int .i64 z)), (6, .ptr (.slot 6) 0), (7, .d (.int .i64 y))], [(.slot 3, .cells [.d (.int .i64 0), .d (.int .i64 0)]), (.slot 124, .arr 54 4 0 es), (.slot 6, .cells [.d (.int .i64 2), .d (.str []), .d (.int .i64 0), .d (.int .i64 z)])]⟩) : loopK Try.prog cfg (icall Try.prog cfg j) lp Try.f19.ntmps 19 [] (bodyAt Try.f19 24) (lf + 1) st (exitP [] (some [0, 3, 4, 5, 6, 7])) = some (.exit 10, ⟨[(0, .d (.str s)), (3, .ptr (.slot 3) 0), (4, .own (.slot 124) 0 l), (5, .d (.int .i64 z)), (6, .ptr (.slot 6) 0), (7, .d (.int .i64 y))], [(.slot 3, .cells [.d (.int .i64 0), .d (.int .i64 0)]), (.slot 124, .arr 54 4 0 es), (.slot 6, .cells [.d (.int .i64 2), .d (.str []), .d (.int .i64 0), .d (.int .i64 z)])]⟩) := by
  refine loop_step hp ?_
  rcases hend with h | ⟨c, hx, hc, hc2⟩
  · have hend : ¬ y < (s.length : Int) := by omega
    conv => lhs; whnf
    refine iteK_dec_f hend ?_
    conv => lhs; whnf
    refine iteK_dec_f hend ?_
    conv => lhs; whnf
    refine iteK_dec_f hend ?_
    conv => lhs; whnf
    refine iteK_dec_f hend ?_
    conv => lhs; whnf
    refine iteK_dec_f hend ?_
    conv => lhs; whnf
    refine iteK_dec_f hend ?_
    conv => lhs; whnf
    refine iteK_dec_f hend ?_
    conv => lhs; whnf
    refine iteK_dec_f hend ?_
    conv => lhs; whnf
    refine Eq.trans (b := some (Fx.exit (10 : Nat), St.mk [((0 : Nat), AV.d (D.str s)), ((3 : Nat), AV.ptr (Nm.slot (3 : Nat)) (0 : Nat)), ((4 : Nat), AV.own (Nm.slot (124 : Nat)) (nat_lit 0) l), ((5 : Nat), AV.d (D.int IntKind.i64 z)), ((6 : Nat), AV.ptr (Nm.slot (6 : Nat)) (0 : Nat)), ((7 : Nat), AV.d (D.int IntKind.i64 y))] [(Nm.slot (3 : Nat), AObj.cells [AV.d (D.int IntKind.i64 (0 : Int)), AV.d (D.int IntKind.i64 (0 : Int))]), (Nm.slot (124 : Nat), AObj.arr (54 : Nat) (4 : Nat) (nat_lit 0) es), (Nm.slot (6 : Nat), AObj.cells [AV.d (D.int IntKind.i64 (2 : Int)), AV.d (D.str []), AV.d (D.int IntKind.i64 (0 : Int)), AV.d (D.int IntKind.i64 z)])])) (by kernel_rfl) ?_
    rfl
  · have hi := (List.getElem?_eq_some_iff.1 hx).1
    have hend : y < (s.length : Int) := by omega
    have c1 := kind31 c j (by omega)
    generalize kindB c = q at *
    conv => lhs; whnf
    refine iteK_dec_t hend ?_
    conv => lhs; whnf
    refine iteK_dec_t hend ?_
    conv => lhs; whnf
    refine iteK_dec_t hend ?_
    conv => lhs; whnf
    refine nextK_of (aop_ixS rfl rfl rfl (ixS_at' hy hx)) ?_
    conv => lhs; whnf
    refine iteK_dec_t hend ?_
    conv => lhs; whnf
    refine nextK_of c1 ?_
    conv => lhs; whnf
    refine iteK_dec_t hend ?_
    conv => lhs; whnf
    refine iteK_dec_t hend ?_
    conv => lhs; whnf
    refine iteK_beq_f hc ?_
    conv => lhs; whnf
    refine iteK_beq_f hc ?_
    conv => lhs; whnf
    refine iteK_beq_f hc ?_
    conv => lhs; whnf
    refine nextK_of (aop_ixS rfl rfl rfl (ixS_at' hy hx)) ?_
    conv => lhs; whnf
    refine iteK_beq_f hc ?_
    conv => lhs; whnf
    refine nextK_of c1 ?_
    conv => lhs; whnf
    refine iteK_beq_f hc ?_
    conv => lhs; whnf
    refine iteK_dec_t hend ?_
    conv => lhs; whnf
    refine iteK_beq_f hc ?_
    conv => lhs; whnf
    refine iteK_dec_t hend ?_
    conv => lhs; whnf
    refine iteK_beq_f hc2 ?_
    conv => lhs; whnf
    refine Eq.trans (b := some (Fx.exit (10 : Nat), St.mk [((0 : Nat), AV.d (D.str s)), ((3 : Nat), AV.ptr (Nm.slot (3 : Nat)) (0 : Nat)), ((4 : Nat), AV.own (Nm.slot (124 : Nat)) (nat_lit 0) l), ((5 : Nat), AV.d (D.int IntKind.i64 z)), ((6 : Nat), AV.ptr (Nm.slot (6 : Nat)) (0 : Nat)), ((7 : Nat), AV.d (D.int IntKind.i64 y))] [(Nm.slot (3 : Nat), AObj.cells [AV.d (D.int IntKind.i64 (0 : Int)), AV.d (D.int IntKind.i64 (0 : Int))]), (Nm.slot (124 : Nat), AObj.arr (54 : Nat) (4 : Nat) (nat_lit 0) es), (Nm.slot (6 : Nat), AObj.cells [AV.d (D.int IntKind.i64 (2 : Int)), AV.d (D.str []), AV.d (D.int IntKind.i64 (0 : Int)), AV.d (D.int IntKind.i64 z)])])) (by kernel_rfl) ?_
    rfl
theorem a_nextO (j : Nat) (hj : 100 < j) (s : List UInt8) (hs : s.length ≤ 4096) (l : Nat) (es : List (List D)) (z : Int) (y : Int) (i : Nat) (hy : y = (i : Int)) (c : UInt8) (hx : s[i]? = some c) (hk : kindB c = 2 ∨ kindB c = 1) {lp : LP} (hlp : lp = lpOf Try.prog cfg (icall Try.prog cfg j) Try.f19.ntmps 19 j (([] : Hp).map (·.1))) (lf : Nat) (st : St) (hp : prune [] [0, 3, 4, 5, 6, 7] st = some ⟨[(0, .d (.str s)), (3, .ptr (.slot 3) 0), (4, .own (.slot 124) 0 l), (5, .d (.int .i64 z)), (6, .ptr (.slot 6) 0), (7, .d (.int .i64 y))], [(.slot 3, .cells [.d (.int .i64 0), .d (.int .i64 0)]), (.slot 124, .arr 54 4 0 es), (.slot 6, .cells [.d (.int .i64 2), .d (.str []), .d (.int .i64 0), .d (.int .i64 z)])]⟩) (r : Option (Fx × St))
    (hih : ∀ st', prune [] [0, 3, 4, 5, 6, 7] st' = some ⟨[(0, .d (.str s)), (3, .ptr (.slot 3) 0), (4, .own (.slot 124) 0 l), (5, .d (.int .i64 z)), (6, .ptr (.slot 6) 0), (7, .d (.int .i64 (IntKind.i64.wrap (y + 1))))], [(.slot 3, .cells [.d (.int .i64 0), .d (.int .i64 0)]), (.slot 124, .arr 54 4 0 es), (.slot 6, .cells [.d (.int .i64 2), .d (.str []), .d (.int .i64 0), .d (.int .i64 z)])]⟩ → loopK Try.prog cfg (icall Try.prog cfg j) lp Try.f19.ntmps 19 [] (bodyAt Try.f19 24) lf st' (exitP [] (some [0, 3, 4, 5, 6, 7])) = r) : loopK Try.prog cfg (icall Try.prog cfg j) lp Try.f19.ntmps 19 [] (bodyAt Try.f19 24) (lf + 1) st (exitP [] (some [0, 3, 4, 5, 6, 7])) = r := by
  have hi := (List.getElem?_eq_some_iff.1 hx).1
  have hend : y < (s.length : Int) := by omega
  have c1 := kind31 c j (by omega)
  refine loop_step hp ?_
  rcases hk with hk | hk
  · rw [hk] at c1
    conv => lhs; whnf
    refine iteK_dec_t hend ?_
    conv => lhs; whnf
    refine iteK_dec_t hend ?_
    conv => lhs; whnf
    refine iteK_dec_t hend ?_
    conv => lhs; whnf
    refine nextK_of (aop_ixS rfl rfl rfl (ixS_at' hy hx)) ?_
    conv => lhs; whnf
    refine iteK_dec_t hend ?_
    conv => lhs; whnf
    refine nextK_of c1 ?_
    conv => lhs; whnf
    refine iteK_dec_t hend ?_
    conv => lhs; whnf
    refine iteK_dec_t hend ?_
    conv => lhs; whnf
    refine iteK_dec_t hend ?_
    conv => lhs; whnf
    refine iteK_dec_t hend ?_
    conv => lhs; whnf
    refine Eq.trans (hih _ rfl) ?_
    rfl
  · rw [hk] at c1
    conv => lhs; whnf
    refine iteK_dec_t hend ?_
    conv => lhs; whnf
    refine iteK_dec_t hend ?_
    conv => lhs; whnf
    refine iteK_dec_t hend ?_
    conv => lhs; whnf
    refine nextK_of (aop_ixS rfl rfl rfl (ixS_at' hy hx)) ?_
    conv => lhs; whnf
    refine iteK_dec_t hend ?_
    conv => lhs; whnf
    refine nextK_of c1 ?_
    conv => lhs; whnf
    refine iteK_dec_t hend ?_
    conv => lhs; whnf
    refine iteK_dec_t hend ?_
    conv => lhs; whnf
    refine nextK_of (aop_ixS rfl rfl rfl (ixS_at' hy hx)) ?_
    conv => lhs; whnf
    refine nextK_of c1 ?_
    conv => lhs; whnf
    refine iteK_dec_t hend ?_
    conv => lhs; whnf
    refine iteK_dec_t hend ?_
    conv => lhs; whnf
    refine Eq.trans (hih _ rfl) ?_
    rfl
theorem s_endO (j : Nat) (hj : 100 < j) (s : List UInt8) (hs : s.length ≤ 4096) (l : Nat) (es : List (List D)) (z : Int) (i : Nat) (hz : z = (i : Int)) (h : s.length ≤ i) {lp : LP} (hlp : lp = lpOf Try.prog cfg (icall Try.prog cfg j) Try.f19.ntmps 19 j (([] : Hp).map (·.1))) (lf : Nat) (st : St) (hp : prune [] [0, 3, 4, 5] st = some ⟨[(0, .d (.str s)), (3, .ptr (.slot 3) 0), (4, .own (.slot 124) 0 l), (5, .d (.int .i64 z))], [(.slot 3, .cells [.d (.int .i64 0), .d (.int .i64 0)]), (.slot 124, .arr 54 4 0 es)]⟩) : loopK Try.prog cfg (icall Try.prog cfg j) lp Try.f19.ntmps 19 [] (bodyAt Try.f19 5) (lf + 1) st (exitP [] (some [2, 3, 4])) = some (.exit 0, ⟨[(2, .undef), (3, .ptr (.slot 3) 0), (4, .own (.slot 124) 0 l)], [(.slot 3, .cells [.d (.int .i64 0), .d (.int .i64 0)]), (.slot 124, .arr 54 4 0 es)]⟩) := by
  refine loop_step hp ?_
  have hend : ¬ z < (s.length : Int) := by omega
  conv => lhs; whnf
  refine iteK_dec_f hend ?_
  conv => lhs; whnf
  refine Eq.trans (b := some (Fx.exit (0 : Nat), St.mk [((2 : Nat), AV.undef), ((3 : Nat), AV.ptr (Nm.slot (3 : Nat)) (0 : Nat)), ((4 : Nat), AV.own (Nm.slot (124 : Nat)) (nat_lit 0) l)] [(Nm.slot (3 : Nat), AObj.cells [AV.d (D.int IntKind.i64 (0 : Int)), AV.d (D.int IntKind.i64 (0 : Int))]), (Nm.slot (124 : Nat), AObj.arr (54 : Nat) (4 : Nat) (nat_lit 0) es)])) (by kernel_rfl) ?_
  rfl
theorem s_badO (j : Nat) (hj : 100 < j) (s : List UInt8) (hs : s.length ≤ 4096) (l : Nat) (es : List (List D)) (z : Int) (i : Nat) (hz : z = (i : Int)) (c : UInt8) (hx : s[i]? = some c) (hk : kindB c = -1) {lp : LP} (hlp : lp = lpOf Try.prog cfg (icall Try.prog cfg j) Try.f19.ntmps 19 j (([] : Hp).map (·.1))) (lf : Nat) (st : St) (hp : prune [] [0, 3, 4, 5] st = some ⟨[(0, .d (.str s)), (3, .ptr (.slot 3) 0), (4, .own (.slot 124) 0 l), (5, .d (.int .i64 z))], [(.slot 3, .cells [.d (.int .i64 0), .d (.int .i64 0)]), (.slot 124, .arr 54 4 0 es)]⟩) : loopK Try.prog cfg (icall Try.prog cfg j) lp Try.f19.ntmps 19 [] (bodyAt Try.f19 5) (lf + 1) st (exitP [] (some [2, 3, 4])) = some (.ret, ⟨[(2, .nilsl), (3, .ptr (.slot 3) 0), (4, .own (.slot 124) 0 l)], [(.slot 3, .cells [.d (.int .i64 3), .d (.int .i64 z)]), (.slot 124, .arr 54 4 0 es)]⟩) := by
  have hi := (List.getElem?_eq_some_iff.1 hx).1
  have hend : z < (s.length : Int) := by omega
  have c1 := kind31 c j (by omega)
  rw [hk] at c1
  refine loop_step hp ?_
  conv => lhs; whnf
  refine iteK_dec_t hend ?_
  conv => lhs; whnf
  refine nextK_of (aop_ixS rfl rfl rfl (ixS_at' hz hx)) ?_
  conv => lhs; whnf
  refine nextK_of c1 ?_
  conv => lhs; whnf
  refine Eq.trans (b := some (Fx.ret, St.mk [((2 : Nat), AV.nilsl), ((3 : Nat), AV.ptr (Nm.slot (3 : Nat)) (0 : Nat)), ((4 : Nat), AV.own (Nm.slot (124 : Nat)) (nat_lit 0) l)] [(Nm.slot (3 : Nat), AObj.cells [AV.d (D.int IntKind.i64 (3 : Int)), AV.d (D.int IntKind.i64 z)]), (Nm.slot (124 : Nat), AObj.arr (54 : Nat) (4 : Nat) (nat_lit 0) es)])) (by kernel_rfl) ?_
  rfl
theorem s_blankO (j : Nat) (hj : 100 < j) (s : List UInt8) (hs : s.length ≤ 4096) (l : Nat) (es : List (List D)) (z : Int) (i : Nat) (hz : z = (i : Int)) (c : UInt8) (hx : s[i]? = some c) (hk : kindB c = 0) {lp : LP} (hlp : lp = lpOf Try.prog cfg (icall Try.prog cfg j) Try.f19.ntmps 19 j (([] : Hp).map (·.1))) (lf : Nat) (st : St) (hp : prune [] [0, 3, 4, 5] st = some ⟨[(0, .d (.str s)), (3, .ptr (.slot 3) 0), (4, .own (.slot 124) 0 l), (5, .d (.int .i64 z))], [(.slot 3, .cells [.d (.int .i64 0), .d (.int .i64 0)]), (.slot 124, .arr 54 4 0 es)]⟩) (r : Option (Fx × St))
    (hih : ∀ st', prune [] [0, 3, 4, 5] st' = some ⟨[(0, .d (.str s)), (3, .ptr (.slot 3) 0), (4, .own (.slot 124) 0 l), (5, .d (.int .i64 (IntKind.i64.wrap (z + 1))))], [(.slot 3, .cells [.d (.int .i64 0), .d (.int .i64 0)]), (.slot 124, .arr 54 4 0 es)]⟩ → loopK Try.prog cfg (icall Try.prog cfg j) lp Try.f19.ntmps 19 [] (bodyAt Try.f19 5) lf st' (exitP [] (some [2, 3, 4])) = r) : loopK Try.prog cfg (icall Try.prog cfg j) lp Try.f19.ntmps 19 [] (bodyAt Try.f19 5) (lf + 1) st (exitP [] (some [2, 3, 4])) = r := by
  have hi := (List.getElem?_eq_some_iff.1 hx).1
  have hend : z < (s.length : Int) := by omega
  have c1 := kind31 c j (by omega)
  rw [hk] at c1
  refine loop_step hp ?_
  conv => lhs; whnf
  refine iteK_dec_t hend ?_
  conv => lhs; whnf
  refine nextK_of (aop_ixS rfl rfl rfl (ixS_at' hz hx)) ?_
  conv => lhs; whnf
  refine nextK_of c1 ?_
  conv => lhs; whnf
  refine Eq.trans (hih _ rfl) ?_
  rfl
theorem s_signO (j : Nat) (hj : 100 < j) (s : List UInt8) (hs : s.length ≤ 4096) (l : Nat) (es : List (List D)) (z : Int) (hll : l ≤ 100000) (i : Nat) (hz : z = (i : Int)) (c : UInt8) (hx : s[i]? = some c) (hk : kindB c = 3) {lp : LP} (hlp : lp = lpOf Try.prog cfg (icall Try.prog cfg j) Try.f19.ntmps 19 j (([] : Hp).map (·.1))) (lf : Nat) (st : St) (hp : prune [] [0, 3, 4, 5] st = some ⟨[(0, .d (.str s)), (3, .ptr (.slot 3) 0), (4, .own (.slot 124) 0 l), (5, .d (.int .i64 z))], [(.slot 3, .cells [.d (.int .i64 0), .d (.int .i64 0)]), (.slot 124, .arr 54 4 0 es)]⟩) (r : Option (Fx × St))
    (hih : ∀ st', prune [] [0, 3, 4, 5] st' = some ⟨[(0, .d (.str s)), (3, .ptr (.slot 3) 0), (4, .own (.slot 124) 0 (l + 1)), (5, .d (.int .i64 (IntKind.i64.wrap (z + 1))))], [(.slot 3, .cells [.d (.int .i64 0), .d (.int .i64 0)]), (.slot 124, .arr 54 4 0 (es.take l ++ [[.int .i64 3, .str ((s.take (i + 1)).drop i), .int .i64 0, .int .i64 z]]))]⟩ → loopK Try.prog cfg (icall Try.prog cfg j) lp Try.f19.ntmps 19 [] (bodyAt Try.f19 5) lf st' (exitP [] (some [2, 3, 4])) = r) : loopK Try.prog cfg (icall Try.prog cfg j) lp Try.f19.ntmps 19 [] (bodyAt Try.f19 5) (lf + 1) st (exitP [] (some [2, 3, 4])) = r := by
  have hi := (List.getElem?_eq_some_iff.1 hx).1
  have hend : z < (s.length : Int) := by omega
  have c1 := kind31 c j (by omega)
  rw [hk] at c1
  obtain ⟨b, hb⟩ : ∃ b, b = i + 1 := ⟨_, rfl⟩
  have hy : IntKind.i64.wrap (z + 1) = (b : Int) := by rw [Go.Rx.wrap_i64 (by omega) (by omega)]; omega
  rw [← hb] at hih
  refine loop_step hp ?_
  conv => lhs; whnf
  refine iteK_dec_t hend ?_
  conv => lhs; whnf
  refine nextK_of (aop_ixS rfl rfl rfl (ixS_at' hz hx)) ?_
  conv => lhs; whnf
  refine nextK_of c1 ?_
  conv => lhs; whnf
  refine nextK_of (aop_part (a := i) (b := b) rfl rfl rfl rfl (bnds_in hz hy (by omega) (by omega))) ?_
  conv => lhs; whnf
  refine nextK_of (aop_app rfl rfl rfl rfl rfl rfl rfl rfl rfl rfl rfl rfl (lenW (by omega))) ?_
  conv => lhs; whnf
  refine Eq.trans (hih _ rfl) ?_
  rfl
theorem s_numFO (j : Nat) (hj : 100 < j) (s : List UInt8) (hs : s.length ≤ 4096) (l : Nat) (es : List (List D)) (z : Int) (i : Nat) (hz : z = (i : Int)) (c : UInt8) (hx : s[i]? = some c) (hk : kindB c = 1) {lp : LP} (hlp : lp = lpOf Try.prog cfg (icall Try.prog cfg j) Try.f19.ntmps 19 j (([] : Hp).map (·.1))) (nv' y' : Int) (h16 : ∀ st', prune [] [0, 3, 4, 5, 6, 7] st' = some ⟨[(0, .d (.str s)), (3, .ptr (.slot 3) 0), (4, .own (.slot 124) 0 l), (5, .d (.int .i64 z)), (6, .ptr (.slot 6) 0), (7, .d (.int .i64 (IntKind.i64.wrap (z + 1))))], [(.slot 3, .cells [.d (.int .i64 0), .d (.int .i64 0)]), (.slot 124, .arr 54 4 0 es), (.slot 6, .cells [.d (.int .i64 1), .d (.str []), .d (.int .i64 (IntKind.i64.wrap (IntKind.u8.wrap ((c.toNat : Int) - 48)))), .d (.int .i64 z)])]⟩ → loopK Try.prog cfg (icall Try.prog cfg j) lp Try.f19.ntmps 19 [] (bodyAt Try.f19 16) j st' (exitP [] (some [0, 2, 3, 4, 6, 7])) = some (.ret, ⟨[(0, .d (.str s)), (2, .nilsl), (3, .ptr (.slot 3) 0), (4, .own (.slot 124) 0 l), (6, .ptr (.slot 6) 0), (7, .d (.int .i64 y'))], [(.slot 3, .cells [.d (.int .i64 13), .d (.int .i64 z)]), (.slot 124, .arr 54 4 0 es), (.slot 6, .cells [.d (.int .i64 1), .d (.str []), .d (.int .i64 nv'), .d (.int .i64 z)])]⟩)) (lf : Nat) (st : St) (hp : prune [] [0, 3, 4, 5] st = some ⟨[(0, .d (.str s)), (3, .ptr (.slot 3) 0), (4, .own (.slot 124) 0 l), (5, .d (.int .i64 z))], [(.slot 3, .cells [.d (.int .i64 0), .d (.int .i64 0)]), (.slot 124, .arr 54 4 0 es)]⟩) : loopK Try.prog cfg (icall Try.prog cfg j) lp Try.f19.ntmps 19 [] (bodyAt Try.f19 5) (lf + 1) st (exitP [] (some [2, 3, 4])) = some (.ret, ⟨[(2, .nilsl), (3, .ptr (.slot 3) 0), (4, .own (.slot 124) 0 l)], [(.slot 3, .cells [.d (.int .i64 13), .d (.int .i64 z)]), (.slot 124, .arr 54 4 0 es)]⟩) := by
  have hi := (List.getElem?_eq_some_iff.1 hx).1
  have hend : z < (s.length : Int) := by omega
  have c1 := kind31 c j (by omega)
  rw [hk] at c1
  refine loop_step hp ?_
  conv => lhs; whnf
  refine iteK_dec_t hend ?_
  conv => lhs; whnf
  refine nextK_of (aop_ixS rfl rfl rfl (ixS_at' hz hx)) ?_
  conv => lhs; whnf
  refine nextK_of c1 ?_
  conv => lhs; whnf
  refine nextK_of (aop_ixS rfl rfl rfl (ixS_at' hz hx)) ?_
  conv => lhs; whnf
  refine nextK_of (loop_at hlp (h16 _ rfl)) ?_
  conv => lhs; whnf
  refine Eq.trans (b := some (Fx.ret, St.mk [((2 : Nat), AV.nilsl), ((3 : Nat), AV.ptr (Nm.slot (3 : Nat)) (0 : Nat)), ((4 : Nat), AV.own (Nm.slot (124 : Nat)) (nat_lit 0) l)] [(Nm.slot (3 : Nat), AObj.cells [AV.d (D.int IntKind.i64 (13 : Int)), AV.d (D.int IntKind.i64 z)]), (Nm.slot (124 : Nat), AObj.arr (54 : Nat) (4 : Nat) (nat_lit 0) es)])) (by kernel_rfl) ?_
  rfl
theorem s_numO (j : Nat) (hj : 100 < j) (s : List UInt8) (hs : s.length ≤ 4096) (l : Nat) (es : List (List D)) (z : Int) (hll : l ≤ 100000) (i : Nat) (hz : z = (i : Int)) (c : UInt8) (hx : s[i]? = some c) (hk : kindB c = 1) {lp : LP} (hlp : lp = lpOf Try.prog cfg (icall Try.prog cfg j) Try.f19.ntmps 19 j (([] : Hp).map (·.1))) (nv' y' : Int) (b : Nat) (hy : y' = (b : Int)) (h16 : ∀ st', prune [] [0, 3, 4, 5, 6, 7] st' = some ⟨[(0, .d (.str s)), (3, .ptr (.slot 3) 0), (4, .own (.slot 124) 0 l), (5, .d (.int .i64 z)), (6, .ptr (.slot 6) 0), (7, .d (.int .i64 (IntKind.i64.wrap (z + 1))))], [(.slot 3, .cells [.d (.int .i64 0), .d (.int .i64 0)]), (.slot 124, .arr 54 4 0 es), (.slot 6, .cells [.d (.int .i64 1), .d (.str []), .d (.int .i64 (IntKind.i64.wrap (IntKind.u8.wrap ((c.toNat : Int) - 48)))), .d (.int .i64 z)])]⟩ → loopK Try.prog cfg (icall Try.prog cfg j) lp Try.f19.ntmps 19 [] (bodyAt Try.f19 16) j st' (exitP [] (some [0, 2, 3, 4, 6, 7])) = some (.exit 8, ⟨[(0, .d (.str s)), (2, .undef), (3, .ptr (.slot 3) 0), (4, .own (.slot 124) 0 l), (6, .ptr (.slot 6) 0), (7, .d (.int .i64 y'))], [(.slot 3, .cells [.d (.int .i64 0), .d (.int .i64 0)]), (.slot 124, .arr 54 4 0 es), (.slot 6, .cells [.d (.int .i64 1), .d (.str []), .d (.int .i64 nv'), .d (.int .i64 z)])]⟩)) (hb : s.length ≤ b ∨ ∃ c', s[b]? = some c' ∧ kindB c' ≠ 2) (lf : Nat) (st : St) (hp : prune [] [0, 3, 4, 5] st = some ⟨[(0, .d (.str s)), (3, .ptr (.slot 3) 0), (4, .own (.slot 124) 0 l), (5, .d (.int .i64 z))], [(.slot 3, .cells [.d (.int .i64 0), .d (.int .i64 0)]), (.slot 124, .arr 54 4 0 es)]⟩) (r : Option (Fx × St))
    (hih : ∀ st', prune [] [0, 3, 4, 5] st' = some ⟨[(0, .d (.str s)), (3, .ptr (.slot 3) 0), (4, .own (.slot 124) 0 (l + 1)), (5, .d (.int .i64 y'))], [(.slot 3, .cells [.d (.int .i64 0), .d (.int .i64 0)]), (.slot 124, .arr 54 4 0 (es.take l ++ [[.int .i64 1, .str [], .int .i64 nv', .int .i64 z]]))]⟩ → loopK Try.prog cfg (icall Try.prog cfg j) lp Try.f19.ntmps 19 [] (bodyAt Try.f19 5) lf st' (exitP [] (some [2, 3, 4])) = r) : loopK Try.prog cfg (icall Try.prog cfg j) lp Try.f19.ntmps 19 [] (bodyAt Try.f19 5) (lf + 1) st (exitP [] (some [2, 3, 4])) = r := by
  have hi := (List.getElem?_eq_some_iff.1 hx).1
  have hend : z < (s.length : Int) := by omega
  have c1 := kind31 c j (by omega)
  rw [hk] at c1
  refine loop_step hp ?_
  rcases hb with hb | ⟨c', hx', hc'⟩
  · have hend2 : ¬ y' < (s.length : Int) := by omega
    conv => lhs; whnf
    refine iteK_dec_t hend ?_
    conv => lhs; whnf
    refine nextK_of (aop_ixS rfl rfl rfl (ixS_at' hz hx)) ?_
    conv => lhs; whnf
    refine nextK_of c1 ?_
    conv => lhs; whnf
    refine nextK_of (aop_ixS rfl rfl rfl (ixS_at' hz hx)) ?_
    conv => lhs; whnf
    refine nextK_of (loop_at hlp (h16 _ rfl)) ?_
    conv => lhs; whnf
    refine iteK_dec_f hend2 ?_
    conv => lhs; whnf
    refine iteK_dec_f hend2 ?_
    conv => lhs; whnf
    refine iteK_dec_f hend2 ?_
    conv => lhs; whnf
    refine iteK_dec_f hend2 ?_
    conv => lhs; whnf
    refine iteK_dec_f hend2 ?_
    conv => lhs; whnf
    refine iteK_dec_f hend2 ?_
    conv => lhs; whnf
    refine nextK_of (aop_app rfl rfl rfl rfl rfl rfl rfl rfl rfl rfl rfl rfl (lenW (by omega))) ?_
    conv => lhs; whnf
    refine Eq.trans (hih _ rfl) ?_
    rfl
  · have hi' := (List.getElem?_eq_some_iff.1 hx').1
    have hend2 : y' < (s.length : Int) := by omega
    have c2 := kind31 c' j (by omega)
    generalize kindB c' = q at *
    conv => lhs; whnf
    refine iteK_dec_t hend ?_
    conv => lhs; whnf
    refine nextK_of (aop_ixS rfl rfl rfl (ixS_at' hz hx)) ?_
    conv => lhs; whnf
    refine nextK_of c1 ?_
    conv => lhs; whnf
    refine nextK_of (aop_ixS rfl rfl rfl (ixS_at' hz hx)) ?_
    conv => lhs; whnf
    refine nextK_of (loop_at hlp (h16 _ rfl)) ?_
    conv => lhs; whnf
    refine iteK_dec_t hend2 ?_
    conv => lhs; whnf
    refine iteK_dec_t hend2 ?_
    conv => lhs; whnf
    refine iteK_dec_t hend2 ?_
    conv => lhs; whnf
    refine nextK_of (aop_ixS rfl rfl rfl (ixS_at' hy hx')) ?_
    conv => lhs; whnf
    refine iteK_dec_t hend2 ?_
    conv => lhs; whnf
    refine nextK_of c2 ?_
    conv => lhs; whnf
    refine iteK_dec_t hend2 ?_
    conv => lhs; whnf
    refine iteK_dec_t hend2 ?_
    conv => lhs; whnf
    refine iteK_beq_f hc' ?_
    conv => lhs; whnf
    refine nextK_of (aop_app rfl rfl rfl rfl rfl rfl rfl rfl rfl rfl rfl rfl (lenW (by omega))) ?_
    conv => lhs; whnf
    refine Eq.trans (hih _ rfl) ?_
    rfl
theorem s_numGO (j : Nat) (hj : 100 < j) (s : List UInt8) (hs : s.length ≤ 4096) (l : Nat) (es : List (List D)) (z : Int) (i : Nat) (hz : z = (i : Int)) (c : UInt8) (hx : s[i]? = some c) (hk : kindB c = 1) {lp : LP} (hlp : lp = lpOf Try.prog cfg (icall Try.prog cfg j) Try.f19.ntmps 19 j (([] : Hp).map (·.1))) (nv' y' : Int) (b : Nat) (hy : y' = (b : Int)) (h16 : ∀ st', prune [] [0, 3, 4, 5, 6, 7] st' = some ⟨[(0, .d (.str s)), (3, .ptr (.slot 3) 0), (4, .own (.slot 124) 0 l), (5, .d (.int .i64 z)), (6, .ptr (.slot 6) 0), (7, .d (.int .i64 (IntKind.i64.wrap (z + 1))))], [(.slot 3, .cells [.d (.int .i64 0), .d (.int .i64 0)]), (.slot 124, .arr 54 4 0 es), (.slot 6, .cells [.d (.int .i64 1), .d (.str []), .d (.int .i64 (IntKind.i64.wrap (IntKind.u8.wrap ((c.toNat : Int) - 48)))), .d (.int .i64 z)])]⟩ → loopK Try.prog cfg (icall Try.prog cfg j) lp Try.f19.ntmps 19 [] (bodyAt Try.f19 16) j st' (exitP [] (some [0, 2, 3, 4, 6, 7])) = some (.exit 8, ⟨[(0, .d (.str s)), (2, .undef), (3, .ptr (.slot 3) 0), (4, .own (.slot 124) 0 l), (6, .ptr (.slot 6) 0), (7, .d (.int .i64 y'))], [(.slot 3, .cells [.d (.int .i64 0), .d (.int .i64 0)]), (.slot 124, .arr 54 4 0 es), (.slot 6, .cells [.d (.int .i64 1), .d (.str []), .d (.int .i64 nv'), .d (.int .i64 z)])]⟩)) (c' : UInt8) (hx' : s[b]? = some c') (hc' : kindB c' = 2) (lf : Nat) (st : St) (hp : prune [] [0, 3, 4, 5] st = some ⟨[(0, .d (.str s)), (3, .ptr (.slot 3) 0), (4, .own (.slot 124) 0 l), (5, .d (.int .i64 z))], [(.slot 3, .cells [.d (.int .i64 0), .d (.int .i64 0)]), (.slot 124, .arr 54 4 0 es)]⟩) : loopK Try.prog cfg (icall Try.prog cfg j) lp Try.f19.ntmps 19 [] (bodyAt Try.f19 5) (lf + 1) st (exitP [] (some [2, 3, 4])) = some (.ret, ⟨[(2, .nilsl), (3, .ptr (.slot 3) 0), (4, .own (.slot 124) 0 l)], [(.slot 3, .cells [.d (.int .i64 3), .d (.int .i64 y')]), (.slot 124, .arr 54 4 0 es)]⟩) := by
  have hi := (List.getElem?_eq_some_iff.1 hx).1
  have hend : z < (s.length : Int) := by omega
  have c1 := kind31 c j (by omega)
  rw [hk] at c1
  refine loop_step hp ?_
  have hi' := (List.getElem?_eq_some_iff.1 hx').1
  have hend2 : y' < (s.length : Int) := by omega
  have c2 := kind31 c' j (by omega)
  rw [hc'] at c2
  conv => lhs; whnf
  refine iteK_dec_t hend ?_
  conv => lhs; whnf
  refine nextK_of (aop_ixS rfl rfl rfl (ixS_at' hz hx)) ?_
  conv => lhs; whnf
  refine nextK_of c1 ?_
  conv => lhs; whnf
  refine nextK_of (aop_ixS rfl rfl rfl (ixS_at' hz hx)) ?_
  conv => lhs; whnf
  refine nextK_of (loop_at hlp (h16 _ rfl)) ?_
  conv => lhs; whnf
  refine iteK_dec_t hend2 ?_
  conv => lhs; whnf
  refine iteK_dec_t hend2 ?_
  conv => lhs; whnf
  refine iteK_dec_t hend2 ?_
  conv => lhs; whnf
  refine nextK_of (aop_ixS rfl rfl rfl (ixS_at' hy hx')) ?_
  conv => lhs; whnf
  refine iteK_dec_t hend2 ?_
  conv => lhs; whnf
  refine nextK_of c2 ?_
  conv => lhs; whnf
  refine iteK_dec_t hend2 ?_
  conv => lhs; whnf
  refine iteK_dec_t hend2 ?_
  conv => lhs; whnf
  refine Eq.trans (b := some (Fx.ret, St.mk [((2 : Nat), AV.nilsl), ((3 : Nat), AV.ptr (Nm.slot (3 : Nat)) (0 : Nat)), ((4 : Nat), AV.own (Nm.slot (124 : Nat)) (nat_lit 0) l)] [(Nm.slot (3 : Nat), AObj.cells [AV.d (D.int IntKind.i64 (3 : Int)), AV.d (D.int IntKind.i64 y')]), (Nm.slot (124 : Nat), AObj.arr (54 : Nat) (4 : Nat) (nat_lit 0) es)])) (by kernel_rfl) ?_
  rfl
theorem s_nameO (j : Nat) (hj : 100 < j) (s : List UInt8) (hs : s.length ≤ 4096) (l : Nat) (es : List (List D)) (z : Int) (hll : l ≤ 100000) (i : Nat) (hz : z = (i : Int)) (c : UInt8) (hx : s[i]? = some c) (hk : kindB c = 2) {lp : LP} (hlp : lp = lpOf Try.prog cfg (icall Try.prog cfg j) Try.f19.ntmps 19 j (([] : Hp).map (·.1))) (y' : Int) (b : Nat) (hy : y' = (b : Int)) (hib : i ≤ b) (hbl : b ≤ s.length) (h24 : ∀ st', prune [] [0, 3, 4, 5, 6, 7] st' = some ⟨[(0, .d (.str s)), (3, .ptr (.slot 3) 0), (4, .own (.slot 124) 0 l), (5, .d (.int .i64 z)), (6, .ptr (.slot 6) 0), (7, .d (.int .i64 (IntKind.i64.wrap (z + 1))))], [(.slot 3, .cells [.d (.int .i64 0), .d (.int .i64 0)]), (.slot 124, .arr 54 4 0 es), (.slot 6, .cells [.d (.int .i64 2), .d (.str []), .d (.int .i64 0), .d (.int .i64 z)])]⟩ → loopK Try.prog cfg (icall Try.prog cfg j) lp Try.f19.ntmps 19 [] (bodyAt Try.f19 24) j st' (exitP [] (some [0, 3, 4, 5, 6, 7])) = some (.exit 10, ⟨[(0, .d (.str s)), (3, .ptr (.slot 3) 0), (4, .own (.slot 124) 0 l), (5, .d (.int .i64 z)), (6, .ptr (.slot 6) 0), (7, .d (.int .i64 y'))], [(.slot 3, .cells [.d (.int .i64 0), .d (.int .i64 0)]), (.slot 124, .arr 54 4 0 es), (.slot 6, .cells [.d (.int .i64 2), .d (.str []), .d (.int .i64 0), .d (.int .i64 z)])]⟩)) (hsm : ¬ IntKind.i64.wrap (y' - z) > 32) (lf : Nat) (st : St) (hp : prune [] [0, 3, 4, 5] st = some ⟨[(0, .d (.str s)), (3, .ptr (.slot 3) 0), (4, .own (.slot 124) 0 l), (5, .d (.int .i64 z))], [(.slot 3, .cells [.d (.int .i64 0), .d (.int .i64 0)]), (.slot 124, .arr 54 4 0 es)]⟩) (r : Option (Fx × St))
    (hih : ∀ st', prune [] [0, 3, 4, 5] st' = some ⟨[(0, .d (.str s)), (3, .ptr (.slot 3) 0), (4, .own (.slot 124) 0 (l + 1)), (5, .d (.int .i64 y'))], [(.slot 3, .cells [.d (.int .i64 0), .d (.int .i64 0)]), (.slot 124, .arr 54 4 0 (es.take l ++ [[.int .i64 2, .str ((s.take b).drop i), .int .i64 0, .int .i64 z]]))]⟩ → loopK Try.prog cfg (icall Try.prog cfg j) lp Try.f19.ntmps 19 [] (bodyAt Try.f19 5) lf st' (exitP [] (some [2, 3, 4])) = r) : loopK Try.prog cfg (icall Try.prog cfg j) lp Try.f19.ntmps 19 [] (bodyAt Try.f19 5) (lf + 1) st (exitP [] (some [2, 3, 4])) = r := by
  have hi := (List.getElem?_eq_some_iff.1 hx).1
  have hend : z < (s.length : Int) := by omega
  have c1 := kind31 c j (by omega)
  rw [hk] at c1
  refine loop_step hp ?_
  conv => lhs; whnf
  refine iteK_dec_t hend ?_
  conv => lhs; whnf
  refine nextK_of (aop_ixS rfl rfl rfl (ixS_at' hz hx)) ?_
  conv => lhs; whnf
  refine nextK_of c1 ?_
  conv => lhs; whnf
  refine nextK_of (loop_at hlp (h24 _ rfl)) ?_
  conv => lhs; whnf
  refine iteK_dec_f hsm ?_
  conv => lhs; whnf
  refine nextK_of (aop_part (a := i) (b := b) rfl rfl rfl rfl (bnds_in hz hy (by omega) (by omega))) ?_
  conv => lhs; whnf
  refine nextK_of (aop_app rfl rfl rfl rfl rfl rfl rfl rfl rfl rfl rfl rfl (lenW (by omega))) ?_
  conv => lhs; whnf
  refine Eq.trans (hih _ rfl) ?_
  rfl
theorem s_nameFO (j : Nat) (hj : 100 < j) (s : List UInt8) (hs : s.length ≤ 4096) (l : Nat) (es : List (List D)) (z : Int) (i : Nat) (hz : z = (i : Int)) (c : UInt8) (hx : s[i]? = some c) (hk : kindB c = 2) {lp : LP} (hlp : lp = lpOf Try.prog cfg (icall Try.prog cfg j) Try.f19.ntmps 19 j (([] : Hp).map (·.1))) (y' : Int) (h24 : ∀ st', prune [] [0, 3, 4, 5, 6, 7] st' = some ⟨[(0, .d (.str s)), (3, .ptr (.slot 3) 0), (4, .own (.slot 124) 0 l), (5, .d (.int .i64 z)), (6, .ptr (.slot 6) 0), (7, .d (.int .i64 (IntKind.i64.wrap (z + 1))))], [(.slot 3, .cells [.d (.int .i64 0), .d (.int .i64 0)]), (.slot 124, .arr 54 4 0 es), (.slot 6, .cells [.d (.int .i64 2), .d (.str []), .d (.int .i64 0), .d (.int .i64 z)])]⟩ → loopK Try.prog cfg (icall Try.prog cfg j) lp Try.f19.ntmps 19 [] (bodyAt Try.f19 24) j st' (exitP [] (some [0, 3, 4, 5, 6, 7])) = some (.exit 10, ⟨[(0, .d (.str s)), (3, .ptr (.slot 3) 0), (4, .own (.slot 124) 0 l), (5, .d (.int .i64 z)), (6, .ptr (.slot 6) 0), (7, .d (.int .i64 y'))], [(.slot 3, .cells [.d (.int .i64 0), .d (.int .i64 0)]), (.slot 124, .arr 54 4 0 es), (.slot 6, .cells [.d (.int .i64 2), .d (.str []), .d (.int .i64 0), .d (.int .i64 z)])]⟩)) (hsm : IntKind.i64.wrap (y' - z) > 32) (lf : Nat) (st : St) (hp : prune [] [0, 3, 4, 5] st = some ⟨[(0, .d (.str s)), (3, .ptr (.slot 3) 0), (4, .own (.slot 124) 0 l), (5, .d (.int .i64 z))], [(.slot 3, .cells [.d (.int .i64 0), .d (.int .i64 0)]), (.slot 124, .arr 54 4 0 es)]⟩) : loopK Try.prog cfg (icall Try.prog cfg j) lp Try.f19.ntmps 19 [] (bodyAt Try.f19 5) (lf + 1) st (exitP [] (some [2, 3, 4])) = some (.ret, ⟨[(2, .nilsl), (3, .ptr (.slot 3) 0), (4, .own (.slot 124) 0 l)], [(.slot 3, .cells [.d (.int .i64 3), .d (.int .i64 z)]), (.slot 124, .arr 54 4 0 es)]⟩) := by
  have hi := (List.getElem?_eq_some_iff.1 hx).1
  have hend : z < (s.length : Int) := by omega
  have c1 := kind31 c j (by omega)
  rw [hk] at c1
  refine loop_step hp ?_
  conv => lhs; whnf
  refine iteK_dec_t hend ?_
  conv => lhs; whnf
  refine nextK_of (aop_ixS rfl rfl rfl (ixS_at' hz hx)) ?_
  conv => lhs; whnf
  refine nextK_of c1 ?_
  conv => lhs; whnf
  refine nextK_of (loop_at hlp (h24 _ rfl)) ?_
  conv => lhs; whnf
  refine iteK_dec_t hsm ?_
  conv => lhs; whnf
  refine Eq.trans (b := some (Fx.ret, St.mk [((2 : Nat), AV.nilsl), ((3 : Nat), AV.ptr (Nm.slot (3 : Nat)) (0 : Nat)), ((4 : Nat), AV.own (Nm.slot (124 : Nat)) (nat_lit 0) l)] [(Nm.slot (3 : Nat), AObj.cells [AV.d (D.int IntKind.i64 (3 : Int)), AV.d (D.int IntKind.i64 z)]), (Nm.slot (124 : Nat), AObj.arr (54 : Nat) (4 : Nat) (nat_lit 0) es)])) (by kernel_rfl) ?_
  rfl
end Go.Rx07.P
