/- A part of the proof of the law: what functions of the program come to, walked by Rx, or plain facts on it. -/
import Derived.Test.YtbeppoonnbfdeaaRLexR2
open Go Go.Rx Go.Proofs Go.Rx07 Go.RxTree
set_option maxRecDepth 1000000
set_option maxHeartbeats 4000000
set_option linter.unusedVariables false
set_option linter.unusedSimpArgs false
namespace Go.Rx07
theorem lenW {n : Nat} (h : n ≤ 50000000) : (n + 1) * (40 + 1) ≤ lim := by unfold lim; omega
theorem s_endN (j : Nat) (hj : 100 < j) (s : List UInt8) (hs : s.length ≤ 4096) (z : Int) (i : Nat) (hz : z = (i : Int)) (h : s.length ≤ i) {lp : LP} (hlp : lp = lpOf Try.prog cfg (icall Try.prog cfg j) Try.f23.ntmps 23 j (([] : Hp).map (·.1))) (lf : Nat) (st : St) (hp : prune [] [0, 3, 4, 5] st = some ⟨[(0, .d (.str s)), (3, .ptr (.slot 3) 0), (4, .nilsl), (5, .d (.int .i64 z))], [(.slot 3, .cells [.d (.int .i64 0), .d (.int .i64 0)])]⟩) : loopK Try.prog cfg (icall Try.prog cfg j) lp Try.f23.ntmps 23 [] (bodyAt Try.f23 5) (lf + 1) st (exitP [] (some [2, 3, 4])) = some (.exit 0, ⟨[(2, .undef), (3, .ptr (.slot 3) 0), (4, .nilsl)], [(.slot 3, .cells [.d (.int .i64 0), .d (.int .i64 0)])]⟩) := by
  refine loop_step hp ?_
  have hend : ¬ z < (s.length : Int) := by omega
  conv => lhs; whnf
  refine iteK_dec_f hend ?_
  conv => lhs; whnf
  refine Eq.trans (b := some (Fx.exit (0 : Nat), St.mk [((2 : Nat), AV.undef), ((3 : Nat), AV.ptr (Nm.slot (3 : Nat)) (0 : Nat)), ((4 : Nat), AV.nilsl)] [(Nm.slot (3 : Nat), AObj.cells [AV.d (D.int IntKind.i64 (0 : Int)), AV.d (D.int IntKind.i64 (0 : Int))])])) (by kernel_rfl) ?_
  rfl
theorem s_blankN (j : Nat) (hj : 100 < j) (s : List UInt8) (hs : s.length ≤ 4096) (z : Int) (i : Nat) (hz : z = (i : Int)) (c : UInt8) (hx : s[i]? = some c) (hc : (c.toNat : Int) = 32) {lp : LP} (hlp : lp = lpOf Try.prog cfg (icall Try.prog cfg j) Try.f23.ntmps 23 j (([] : Hp).map (·.1))) (lf : Nat) (st : St) (hp : prune [] [0, 3, 4, 5] st = some ⟨[(0, .d (.str s)), (3, .ptr (.slot 3) 0), (4, .nilsl), (5, .d (.int .i64 z))], [(.slot 3, .cells [.d (.int .i64 0), .d (.int .i64 0)])]⟩) (r : Option (Fx × St))
    (hih : ∀ st', prune [] [0, 3, 4, 5] st' = some ⟨[(0, .d (.str s)), (3, .ptr (.slot 3) 0), (4, .nilsl), (5, .d (.int .i64 (IntKind.i64.wrap (z + 1))))], [(.slot 3, .cells [.d (.int .i64 0), .d (.int .i64 0)])]⟩ → loopK Try.prog cfg (icall Try.prog cfg j) lp Try.f23.ntmps 23 [] (bodyAt Try.f23 5) lf st' (exitP [] (some [2, 3, 4])) = r) : loopK Try.prog cfg (icall Try.prog cfg j) lp Try.f23.ntmps 23 [] (bodyAt Try.f23 5) (lf + 1) st (exitP [] (some [2, 3, 4])) = r := by
  have hi := (List.getElem?_eq_some_iff.1 hx).1
  have hend : z < (s.length : Int) := by omega
  refine loop_step hp ?_
  conv => lhs; whnf
  refine iteK_dec_t hend ?_
  conv => lhs; whnf
  refine nextK_of (aop_ixS rfl rfl rfl (ixS_at' hz hx)) ?_
  conv => lhs; whnf
  refine iteK_beq_t hc ?_
  conv => lhs; whnf
  refine Eq.trans (hih _ rfl) ?_
  rfl
theorem s_badN (j : Nat) (hj : 100 < j) (s : List UInt8) (hs : s.length ≤ 4096) (z : Int) (i : Nat) (hz : z = (i : Int)) (c : UInt8) (hx : s[i]? = some c) (hc : (c.toNat : Int) ≠ 32) (w : W) (nb er at' : Int) (c1 : icall Try.prog cfg j 36 [.d (.str (s.drop i))] [] = some (.ret (.tuple [.agg [.d (.int .i64 w.k), .d (.str w.t), .d (.int .i64 w.n), .d (.int .i64 w.at')], .d (.int .i64 nb), .d (.int .i64 er), .d (.int .i64 at')]), [])) (her : er ≠ 0) {lp : LP} (hlp : lp = lpOf Try.prog cfg (icall Try.prog cfg j) Try.f23.ntmps 23 j (([] : Hp).map (·.1))) (lf : Nat) (st : St) (hp : prune [] [0, 3, 4, 5] st = some ⟨[(0, .d (.str s)), (3, .ptr (.slot 3) 0), (4, .nilsl), (5, .d (.int .i64 z))], [(.slot 3, .cells [.d (.int .i64 0), .d (.int .i64 0)])]⟩) : loopK Try.prog cfg (icall Try.prog cfg j) lp Try.f23.ntmps 23 [] (bodyAt Try.f23 5) (lf + 1) st (exitP [] (some [2, 3, 4])) = some (.ret, ⟨[(2, .nilsl), (3, .ptr (.slot 3) 0), (4, .nilsl)], [(.slot 3, .cells [.d (.int .i64 er), .d (.int .i64 (IntKind.i64.wrap (z + at')))])]⟩) := by
  have hi := (List.getElem?_eq_some_iff.1 hx).1
  have hend : z < (s.length : Int) := by omega
  have aop_s := fun {P : Program} {dst : Nat} {ρ : Operand → AV} {H : Hp} {t : TypeId} {x : Operand} {lo : Option Operand} (hx : ρ x = .d (.str s)) (ht : P.underlying t = some .string) (hl : intV (lo.map ρ) = some (some z)) => by
    have := aop_part (dst := dst) (hi := none) (H := H) (a := i) (b := s.length) hx ht hl rfl (bnds_from hz (by omega)); rw [List.take_length] at this; exact this
  generalize s.drop i = sd at *
  refine loop_step hp ?_
  conv => lhs; whnf
  refine iteK_dec_t hend ?_
  conv => lhs; whnf
  refine nextK_of (aop_ixS rfl rfl rfl (ixS_at' hz hx)) ?_
  conv => lhs; whnf
  refine iteK_beq_f hc ?_
  conv => lhs; whnf
  refine nextK_of (aop_s rfl rfl rfl) ?_
  conv => lhs; whnf
  refine nextK_of c1 ?_
  conv => lhs; whnf
  refine iteK_bne_t her ?_
  conv => lhs; whnf
  refine Eq.trans (b := some (Fx.ret, St.mk [((2 : Nat), AV.nilsl), ((3 : Nat), AV.ptr (Nm.slot (3 : Nat)) (0 : Nat)), ((4 : Nat), AV.nilsl)] [(Nm.slot (3 : Nat), AObj.cells [AV.d (D.int IntKind.i64 er), AV.d (D.int IntKind.i64 (IntKind.wrap IntKind.i64 (z + at')))])])) (by kernel_rfl) ?_
  rfl
theorem s_wordN (j : Nat) (hj : 100 < j) (s : List UInt8) (hs : s.length ≤ 4096) (z : Int) (i : Nat) (hz : z = (i : Int)) (c : UInt8) (hx : s[i]? = some c) (hc : (c.toNat : Int) ≠ 32) (w : W) (nb at' : Int) (c1 : icall Try.prog cfg j 36 [.d (.str (s.drop i))] [] = some (.ret (.tuple [.agg [.d (.int .i64 w.k), .d (.str w.t), .d (.int .i64 w.n), .d (.int .i64 w.at')], .d (.int .i64 nb), .d (.int .i64 0), .d (.int .i64 at')]), [])) {lp : LP} (hlp : lp = lpOf Try.prog cfg (icall Try.prog cfg j) Try.f23.ntmps 23 j (([] : Hp).map (·.1))) (lf : Nat) (st : St) (hp : prune [] [0, 3, 4, 5] st = some ⟨[(0, .d (.str s)), (3, .ptr (.slot 3) 0), (4, .nilsl), (5, .d (.int .i64 z))], [(.slot 3, .cells [.d (.int .i64 0), .d (.int .i64 0)])]⟩) (r : Option (Fx × St))
    (hih : ∀ st', prune [] [0, 3, 4, 5] st' = some ⟨[(0, .d (.str s)), (3, .ptr (.slot 3) 0), (4, .own (.slot 45) 0 1), (5, .d (.int .i64 (IntKind.i64.wrap (z + nb))))], [(.slot 3, .cells [.d (.int .i64 0), .d (.int .i64 0)]), (.slot 45, .arr 54 4 0 [[.int .i64 w.k, .str w.t, .int .i64 w.n, .int .i64 z]])]⟩ → loopK Try.prog cfg (icall Try.prog cfg j) lp Try.f23.ntmps 23 [] (bodyAt Try.f23 5) lf st' (exitP [] (some [2, 3, 4])) = r) : loopK Try.prog cfg (icall Try.prog cfg j) lp Try.f23.ntmps 23 [] (bodyAt Try.f23 5) (lf + 1) st (exitP [] (some [2, 3, 4])) = r := by
  have hi := (List.getElem?_eq_some_iff.1 hx).1
  have hend : z < (s.length : Int) := by omega
  have aop_s := fun {P : Program} {dst : Nat} {ρ : Operand → AV} {H : Hp} {t : TypeId} {x : Operand} {lo : Option Operand} (hx : ρ x = .d (.str s)) (ht : P.underlying t = some .string) (hl : intV (lo.map ρ) = some (some z)) => by
    have := aop_part (dst := dst) (hi := none) (H := H) (a := i) (b := s.length) hx ht hl rfl (bnds_from hz (by omega)); rw [List.take_length] at this; exact this
  generalize s.drop i = sd at *
  refine loop_step hp ?_
  conv => lhs; whnf
  refine iteK_dec_t hend ?_
  conv => lhs; whnf
  refine nextK_of (aop_ixS rfl rfl rfl (ixS_at' hz hx)) ?_
  conv => lhs; whnf
  refine iteK_beq_f hc ?_
  conv => lhs; whnf
  refine nextK_of (aop_s rfl rfl rfl) ?_
  conv => lhs; whnf
  refine nextK_of c1 ?_
  conv => lhs; whnf
  refine Eq.trans (hih _ rfl) ?_
  rfl
theorem s_endO (j : Nat) (hj : 100 < j) (s : List UInt8) (hs : s.length ≤ 4096) (l : Nat) (es : List (List D)) (hll : l ≤ 100000) (z : Int) (i : Nat) (hz : z = (i : Int)) (h : s.length ≤ i) {lp : LP} (hlp : lp = lpOf Try.prog cfg (icall Try.prog cfg j) Try.f23.ntmps 23 j (([] : Hp).map (·.1))) (lf : Nat) (st : St) (hp : prune [] [0, 3, 4, 5] st = some ⟨[(0, .d (.str s)), (3, .ptr (.slot 3) 0), (4, .own (.slot 45) 0 l), (5, .d (.int .i64 z))], [(.slot 3, .cells [.d (.int .i64 0), .d (.int .i64 0)]), (.slot 45, .arr 54 4 0 es)]⟩) : loopK Try.prog cfg (icall Try.prog cfg j) lp Try.f23.ntmps 23 [] (bodyAt Try.f23 5) (lf + 1) st (exitP [] (some [2, 3, 4])) = some (.exit 0, ⟨[(2, .undef), (3, .ptr (.slot 3) 0), (4, .own (.slot 45) 0 l)], [(.slot 3, .cells [.d (.int .i64 0), .d (.int .i64 0)]), (.slot 45, .arr 54 4 0 es)]⟩) := by
  refine loop_step hp ?_
  have hend : ¬ z < (s.length : Int) := by omega
  conv => lhs; whnf
  refine iteK_dec_f hend ?_
  conv => lhs; whnf
  refine Eq.trans (b := some (Fx.exit (0 : Nat), St.mk [((2 : Nat), AV.undef), ((3 : Nat), AV.ptr (Nm.slot (3 : Nat)) (0 : Nat)), ((4 : Nat), AV.own (Nm.slot (45 : Nat)) (nat_lit 0) l)] [(Nm.slot (3 : Nat), AObj.cells [AV.d (D.int IntKind.i64 (0 : Int)), AV.d (D.int IntKind.i64 (0 : Int))]), (Nm.slot (45 : Nat), AObj.arr (54 : Nat) (4 : Nat) (nat_lit 0) es)])) (by kernel_rfl) ?_
  rfl
theorem s_blankO (j : Nat) (hj : 100 < j) (s : List UInt8) (hs : s.length ≤ 4096) (l : Nat) (es : List (List D)) (hll : l ≤ 100000) (z : Int) (i : Nat) (hz : z = (i : Int)) (c : UInt8) (hx : s[i]? = some c) (hc : (c.toNat : Int) = 32) {lp : LP} (hlp : lp = lpOf Try.prog cfg (icall Try.prog cfg j) Try.f23.ntmps 23 j (([] : Hp).map (·.1))) (lf : Nat) (st : St) (hp : prune [] [0, 3, 4, 5] st = some ⟨[(0, .d (.str s)), (3, .ptr (.slot 3) 0), (4, .own (.slot 45) 0 l), (5, .d (.int .i64 z))], [(.slot 3, .cells [.d (.int .i64 0), .d (.int .i64 0)]), (.slot 45, .arr 54 4 0 es)]⟩) (r : Option (Fx × St))
    (hih : ∀ st', prune [] [0, 3, 4, 5] st' = some ⟨[(0, .d (.str s)), (3, .ptr (.slot 3) 0), (4, .own (.slot 45) 0 l), (5, .d (.int .i64 (IntKind.i64.wrap (z + 1))))], [(.slot 3, .cells [.d (.int .i64 0), .d (.int .i64 0)]), (.slot 45, .arr 54 4 0 es)]⟩ → loopK Try.prog cfg (icall Try.prog cfg j) lp Try.f23.ntmps 23 [] (bodyAt Try.f23 5) lf st' (exitP [] (some [2, 3, 4])) = r) : loopK Try.prog cfg (icall Try.prog cfg j) lp Try.f23.ntmps 23 [] (bodyAt Try.f23 5) (lf + 1) st (exitP [] (some [2, 3, 4])) = r := by
  have hi := (List.getElem?_eq_some_iff.1 hx).1
  have hend : z < (s.length : Int) := by omega
  refine loop_step hp ?_
  conv => lhs; whnf
  refine iteK_dec_t hend ?_
  conv => lhs; whnf
  refine nextK_of (aop_ixS rfl rfl rfl (ixS_at' hz hx)) ?_
  conv => lhs; whnf
  refine iteK_beq_t hc ?_
  conv => lhs; whnf
  refine Eq.trans (hih _ rfl) ?_
  rfl
theorem s_badO (j : Nat) (hj : 100 < j) (s : List UInt8) (hs : s.length ≤ 4096) (l : Nat) (es : List (List D)) (hll : l ≤ 100000) (z : Int) (i : Nat) (hz : z = (i : Int)) (c : UInt8) (hx : s[i]? = some c) (hc : (c.toNat : Int) ≠ 32) (w : W) (nb er at' : Int) (c1 : icall Try.prog cfg j 36 [.d (.str (s.drop i))] [] = some (.ret (.tuple [.agg [.d (.int .i64 w.k), .d (.str w.t), .d (.int .i64 w.n), .d (.int .i64 w.at')], .d (.int .i64 nb), .d (.int .i64 er), .d (.int .i64 at')]), [])) (her : er ≠ 0) {lp : LP} (hlp : lp = lpOf Try.prog cfg (icall Try.prog cfg j) Try.f23.ntmps 23 j (([] : Hp).map (·.1))) (lf : Nat) (st : St) (hp : prune [] [0, 3, 4, 5] st = some ⟨[(0, .d (.str s)), (3, .ptr (.slot 3) 0), (4, .own (.slot 45) 0 l), (5, .d (.int .i64 z))], [(.slot 3, .cells [.d (.int .i64 0), .d (.int .i64 0)]), (.slot 45, .arr 54 4 0 es)]⟩) : loopK Try.prog cfg (icall Try.prog cfg j) lp Try.f23.ntmps 23 [] (bodyAt Try.f23 5) (lf + 1) st (exitP [] (some [2, 3, 4])) = some (.ret, ⟨[(2, .nilsl), (3, .ptr (.slot 3) 0), (4, .own (.slot 45) 0 l)], [(.slot 3, .cells [.d (.int .i64 er), .d (.int .i64 (IntKind.i64.wrap (z + at')))]), (.slot 45, .arr 54 4 0 es)]⟩) := by
  have hi := (List.getElem?_eq_some_iff.1 hx).1
  have hend : z < (s.length : Int) := by omega
  have aop_s := fun {P : Program} {dst : Nat} {ρ : Operand → AV} {H : Hp} {t : TypeId} {x : Operand} {lo : Option Operand} (hx : ρ x = .d (.str s)) (ht : P.underlying t = some .string) (hl : intV (lo.map ρ) = some (some z)) => by
    have := aop_part (dst := dst) (hi := none) (H := H) (a := i) (b := s.length) hx ht hl rfl (bnds_from hz (by omega)); rw [List.take_length] at this; exact this
  generalize s.drop i = sd at *
  refine loop_step hp ?_
  conv => lhs; whnf
  refine iteK_dec_t hend ?_
  conv => lhs; whnf
  refine nextK_of (aop_ixS rfl rfl rfl (ixS_at' hz hx)) ?_
  conv => lhs; whnf
  refine iteK_beq_f hc ?_
  conv => lhs; whnf
  refine nextK_of (aop_s rfl rfl rfl) ?_
  conv => lhs; whnf
  refine nextK_of c1 ?_
  conv => lhs; whnf
  refine iteK_bne_t her ?_
  conv => lhs; whnf
  refine Eq.trans (b := some (Fx.ret, St.mk [((2 : Nat), AV.nilsl), ((3 : Nat), AV.ptr (Nm.slot (3 : Nat)) (0 : Nat)), ((4 : Nat), AV.own (Nm.slot (45 : Nat)) (nat_lit 0) l)] [(Nm.slot (3 : Nat), AObj.cells [AV.d (D.int IntKind.i64 er), AV.d (D.int IntKind.i64 (IntKind.wrap IntKind.i64 (z + at')))]), (Nm.slot (45 : Nat), AObj.arr (54 : Nat) (4 : Nat) (nat_lit 0) es)])) (by kernel_rfl) ?_
  rfl
theorem s_wordO (j : Nat) (hj : 100 < j) (s : List UInt8) (hs : s.length ≤ 4096) (l : Nat) (es : List (List D)) (hll : l ≤ 100000) (z : Int) (i : Nat) (hz : z = (i : Int)) (c : UInt8) (hx : s[i]? = some c) (hc : (c.toNat : Int) ≠ 32) (w : W) (nb at' : Int) (c1 : icall Try.prog cfg j 36 [.d (.str (s.drop i))] [] = some (.ret (.tuple [.agg [.d (.int .i64 w.k), .d (.str w.t), .d (.int .i64 w.n), .d (.int .i64 w.at')], .d (.int .i64 nb), .d (.int .i64 0), .d (.int .i64 at')]), [])) {lp : LP} (hlp : lp = lpOf Try.prog cfg (icall Try.prog cfg j) Try.f23.ntmps 23 j (([] : Hp).map (·.1))) (lf : Nat) (st : St) (hp : prune [] [0, 3, 4, 5] st = some ⟨[(0, .d (.str s)), (3, .ptr (.slot 3) 0), (4, .own (.slot 45) 0 l), (5, .d (.int .i64 z))], [(.slot 3, .cells [.d (.int .i64 0), .d (.int .i64 0)]), (.slot 45, .arr 54 4 0 es)]⟩) (r : Option (Fx × St))
    (hih : ∀ st', prune [] [0, 3, 4, 5] st' = some ⟨[(0, .d (.str s)), (3, .ptr (.slot 3) 0), (4, .own (.slot 45) 0 (l + 1)), (5, .d (.int .i64 (IntKind.i64.wrap (z + nb))))], [(.slot 3, .cells [.d (.int .i64 0), .d (.int .i64 0)]), (.slot 45, .arr 54 4 0 (es.take l ++ [[.int .i64 w.k, .str w.t, .int .i64 w.n, .int .i64 z]]))]⟩ → loopK Try.prog cfg (icall Try.prog cfg j) lp Try.f23.ntmps 23 [] (bodyAt Try.f23 5) lf st' (exitP [] (some [2, 3, 4])) = r) : loopK Try.prog cfg (icall Try.prog cfg j) lp Try.f23.ntmps 23 [] (bodyAt Try.f23 5) (lf + 1) st (exitP [] (some [2, 3, 4])) = r := by
  have hi := (List.getElem?_eq_some_iff.1 hx).1
  have hend : z < (s.length : Int) := by omega
  have aop_s := fun {P : Program} {dst : Nat} {ρ : Operand → AV} {H : Hp} {t : TypeId} {x : Operand} {lo : Option Operand} (hx : ρ x = .d (.str s)) (ht : P.underlying t = some .string) (hl : intV (lo.map ρ) = some (some z)) => by
    have := aop_part (dst := dst) (hi := none) (H := H) (a := i) (b := s.length) hx ht hl rfl (bnds_from hz (by omega)); rw [List.take_length] at this; exact this
  generalize s.drop i = sd at *
  refine loop_step hp ?_
  conv => lhs; whnf
  refine iteK_dec_t hend ?_
  conv => lhs; whnf
  refine nextK_of (aop_ixS rfl rfl rfl (ixS_at' hz hx)) ?_
  conv => lhs; whnf
  refine iteK_beq_f hc ?_
  conv => lhs; whnf
  refine nextK_of (aop_s rfl rfl rfl) ?_
  conv => lhs; whnf
  refine nextK_of c1 ?_
  conv => lhs; whnf
  refine nextK_of (aop_app rfl rfl rfl rfl rfl rfl rfl rfl rfl rfl rfl rfl (lenW (by omega))) ?_
  conv => lhs; whnf
  refine Eq.trans (hih _ rfl) ?_
  rfl
theorem c32 (c : UInt8) : (c.toNat : Int) = 32 ↔ c = 32 := by
  rw [← UInt8.toNat_inj]; show _ ↔ c.toNat = 32; omega
theorem one_bnd (s : List UInt8) (c : UInt8) (hs : 0 < s.length) : (oneW s c).2.1 ≤ s.length ∧ (oneW s c).2.2.2 ≤ s.length := by
  unfold oneW
  have h1 := digE_b (s.drop 1) 1
  have h2 := nameS_b (s.drop 1) 1
  have hl : (s.drop 1).length = s.length - 1 := List.length_drop
  repeat' split
  all_goals (simp only []; omega)
theorem one_pos (s : List UInt8) (c : UInt8) (h : (oneW s c).2.2.1 = 0) : 0 < (oneW s c).2.1 := by
  unfold oneW at h ⊢
  have h1 := digE_b (s.drop 1) 1
  have h2 := nameS_b (s.drop 1) 1
  repeat' split
  all_goals (simp_all <;> omega)
theorem takeW (acc : List W) : (acc.map W.cells).take acc.length = acc.map W.cells := by rw [List.take_of_length_le (by simp)]
theorem splitO (s : List UInt8) (hs : s.length ≤ 4096) (j : Nat) (hj : s.length + 100 < j) {lp : LP} (hlp : lp = lpOf Try.prog cfg (icall Try.prog cfg j) Try.f23.ntmps 23 j (([] : Hp).map (·.1))) : ∀ (m i : Nat) (acc : List W), s.length - i ≤ m → acc.length + m ≤ 50000 →
    ((splitR s m i acc).2.1 = 0 → ∀ lf st, m < lf → prune [] [0, 3, 4, 5] st = some ⟨[(0, .d (.str s)), (3, .ptr (.slot 3) 0), (4, .own (.slot 45) 0 acc.length), (5, .d (.int .i64 (i : Int)))], [(.slot 3, .cells [.d (.int .i64 0), .d (.int .i64 0)]), (.slot 45, .arr 54 4 0 (acc.map W.cells))]⟩ → loopK Try.prog cfg (icall Try.prog cfg j) lp Try.f23.ntmps 23 [] (bodyAt Try.f23 5) lf st (exitP [] (some [2, 3, 4])) = some (.exit 0, ⟨[(2, .undef), (3, .ptr (.slot 3) 0), (4, .own (.slot 45) 0 (splitR s m i acc).1.length)], [(.slot 3, .cells [.d (.int .i64 0), .d (.int .i64 0)]), (.slot 45, .arr 54 4 0 ((splitR s m i acc).1.map W.cells))]⟩)) ∧
    ((splitR s m i acc).2.1 ≠ 0 → ∃ l es, ∀ lf st, m < lf → prune [] [0, 3, 4, 5] st = some ⟨[(0, .d (.str s)), (3, .ptr (.slot 3) 0), (4, .own (.slot 45) 0 acc.length), (5, .d (.int .i64 (i : Int)))], [(.slot 3, .cells [.d (.int .i64 0), .d (.int .i64 0)]), (.slot 45, .arr 54 4 0 (acc.map W.cells))]⟩ → loopK Try.prog cfg (icall Try.prog cfg j) lp Try.f23.ntmps 23 [] (bodyAt Try.f23 5) lf st (exitP [] (some [2, 3, 4])) = some (.ret, ⟨[(2, .nilsl), (3, .ptr (.slot 3) 0), (4, .own (.slot 45) 0 l)], [(.slot 3, .cells [.d (.int .i64 (splitR s m i acc).2.1), .d (.int .i64 (splitR s m i acc).2.2)]), (.slot 45, .arr 54 4 0 es)]⟩)) := by
  intro m
  induction m with
  | zero =>
    intro i acc hm ha
    rw [splitR]
    refine ⟨fun _ lf st hlf hp => ?_, fun h => absurd rfl h⟩
    obtain ⟨lf, rfl⟩ : ∃ n, lf = n + 1 := ⟨lf - 1, by omega⟩
    exact s_endO j (by omega) s hs acc.length (acc.map W.cells) (by omega) i i rfl (by omega) hlp lf st hp
  | succ m ihm =>
    intro i acc hm ha
    rw [splitR]
    cases hx : s[i]? with
    | none =>
      refine ⟨fun _ lf st hlf hp => ?_, fun h => absurd rfl h⟩
      obtain ⟨lf, rfl⟩ : ∃ n, lf = n + 1 := ⟨lf - 1, by omega⟩
      exact s_endO j (by omega) s hs acc.length (acc.map W.cells) (by omega) i i rfl (List.getElem?_eq_none_iff.1 hx) hlp lf st hp
    | some c =>
      simp only []
      have hi := (List.getElem?_eq_some_iff.1 hx).1
      by_cases h0 : c = 32
      · rw [if_pos h0]
        have ez : IntKind.i64.wrap ((i : Int) + 1) = ((i + 1 : Nat) : Int) := by rw [Go.Rx.wrap_i64 (by omega) (by omega)]; omega
        obtain ⟨g1, g2⟩ := ihm (i + 1) acc (by omega) (by omega)
        refine ⟨fun h lf st hlf hp => ?_, fun h => ?_⟩
        · obtain ⟨lf, rfl⟩ : ∃ n, lf = n + 1 := ⟨lf - 1, by omega⟩
          exact s_blankO j (by omega) s hs acc.length (acc.map W.cells) (by omega) i i rfl c hx ((c32 c).2 h0) hlp lf st hp _ (fun st' hp' => g1 h lf st' (by omega) (by rw [hp', ez]))
        · obtain ⟨l, es, g⟩ := g2 h
          refine ⟨l, es, fun lf st hlf hp => ?_⟩
          obtain ⟨lf, rfl⟩ : ∃ n, lf = n + 1 := ⟨lf - 1, by omega⟩
          exact s_blankO j (by omega) s hs acc.length (acc.map W.cells) (by omega) i i rfl c hx ((c32 c).2 h0) hlp lf st hp _ (fun st' hp' => g lf st' (by omega) (by rw [hp', ez]))
      · rw [if_neg h0]
        have h0' : (c.toNat : Int) ≠ 32 := fun h => h0 ((c32 c).1 h)
        have hdl : (s.drop i).length = s.length - i := List.length_drop
        have c1 := one36 (s.drop i) (by omega) c (by rw [List.getElem?_drop, Nat.add_zero]; exact hx) j (by omega)
        have hb := one_bnd (s.drop i) c (by omega)
        have hpos := one_pos (s.drop i) c
        generalize oneW (s.drop i) c = q at *
        obtain ⟨w, nb, er, at'⟩ := q
        simp only [] at c1 hb hpos ⊢
        by_cases he : er = 0
        · subst he
          rw [if_neg (by simp)]
          have ez : IntKind.i64.wrap ((i : Int) + (nb : Int)) = ((i + nb : Nat) : Int) := by rw [Go.Rx.wrap_i64 (by omega) (by omega)]; omega
          have hpos := hpos rfl
          obtain ⟨g1, g2⟩ := ihm (i + nb) (acc ++ [{ w with at' := (i : Int) }]) (by omega) (by simp; omega)
          have conv : ∀ st' : St, prune [] [0, 3, 4, 5] st' = some ⟨[(0, .d (.str s)), (3, .ptr (.slot 3) 0), (4, .own (.slot 45) 0 (acc.length + 1)), (5, .d (.int .i64 (IntKind.i64.wrap ((i : Int) + (nb : Int)))))], [(.slot 3, .cells [.d (.int .i64 0), .d (.int .i64 0)]), (.slot 45, .arr 54 4 0 ((acc.map W.cells).take acc.length ++ [[.int .i64 w.k, .str w.t, .int .i64 w.n, .int .i64 (i : Int)]]))]⟩ → prune [] [0, 3, 4, 5] st' = some ⟨[(0, .d (.str s)), (3, .ptr (.slot 3) 0), (4, .own (.slot 45) 0 (acc ++ [{ w with at' := (i : Int) }]).length), (5, .d (.int .i64 ((i + nb : Nat) : Int)))], [(.slot 3, .cells [.d (.int .i64 0), .d (.int .i64 0)]), (.slot 45, .arr 54 4 0 ((acc ++ [{ w with at' := (i : Int) }]).map W.cells))]⟩ := fun st' hp' => by
            rw [hp', ez, takeW, List.map_append, List.length_append]; rfl
          refine ⟨fun h lf st hlf hp => ?_, fun h => ?_⟩
          · obtain ⟨lf, rfl⟩ : ∃ n, lf = n + 1 := ⟨lf - 1, by omega⟩
            exact s_wordO j (by omega) s hs acc.length (acc.map W.cells) (by omega) i i rfl c hx h0' w nb at' c1 hlp lf st hp _ (fun st' hp' => g1 h lf st' (by omega) (conv st' hp'))
          · obtain ⟨l, es, g⟩ := g2 h
            refine ⟨l, es, fun lf st hlf hp => ?_⟩
            obtain ⟨lf, rfl⟩ : ∃ n, lf = n + 1 := ⟨lf - 1, by omega⟩
            exact s_wordO j (by omega) s hs acc.length (acc.map W.cells) (by omega) i i rfl c hx h0' w nb at' c1 hlp lf st hp _ (fun st' hp' => g lf st' (by omega) (conv st' hp'))
        · rw [if_pos he]
          refine ⟨fun h => absurd h he, fun _ => ⟨acc.length, acc.map W.cells, fun lf st hlf hp => ?_⟩⟩
          obtain ⟨lf, rfl⟩ : ∃ n, lf = n + 1 := ⟨lf - 1, by omega⟩
          have ea : IntKind.i64.wrap ((i : Int) + (at' : Int)) = (i : Int) + (at' : Int) := Go.Rx.wrap_i64 (by omega) (by omega)
          have := s_badO j (by omega) s hs acc.length (acc.map W.cells) (by omega) i i rfl c hx h0' w nb er at' c1 he hlp lf st hp
          rw [ea] at this
          exact this
theorem splitN (s : List UInt8) (hs : s.length ≤ 4096) (j : Nat) (hj : s.length + 100 < j) {lp : LP} (hlp : lp = lpOf Try.prog cfg (icall Try.prog cfg j) Try.f23.ntmps 23 j (([] : Hp).map (·.1))) : ∀ (m i : Nat), s.length - i ≤ m → m ≤ 40000 →
    ((splitR s m i []).2.1 = 0 → ((splitR s m i []).1 = [] ∧ ∀ lf st, m < lf → prune [] [0, 3, 4, 5] st = some ⟨[(0, .d (.str s)), (3, .ptr (.slot 3) 0), (4, .nilsl), (5, .d (.int .i64 (i : Int)))], [(.slot 3, .cells [.d (.int .i64 0), .d (.int .i64 0)])]⟩ → loopK Try.prog cfg (icall Try.prog cfg j) lp Try.f23.ntmps 23 [] (bodyAt Try.f23 5) lf st (exitP [] (some [2, 3, 4])) = some (.exit 0, ⟨[(2, .undef), (3, .ptr (.slot 3) 0), (4, .nilsl)], [(.slot 3, .cells [.d (.int .i64 0), .d (.int .i64 0)])]⟩)) ∨ ∀ lf st, m < lf → prune [] [0, 3, 4, 5] st = some ⟨[(0, .d (.str s)), (3, .ptr (.slot 3) 0), (4, .nilsl), (5, .d (.int .i64 (i : Int)))], [(.slot 3, .cells [.d (.int .i64 0), .d (.int .i64 0)])]⟩ → loopK Try.prog cfg (icall Try.prog cfg j) lp Try.f23.ntmps 23 [] (bodyAt Try.f23 5) lf st (exitP [] (some [2, 3, 4])) = some (.exit 0, ⟨[(2, .undef), (3, .ptr (.slot 3) 0), (4, .own (.slot 45) 0 (splitR s m i []).1.length)], [(.slot 3, .cells [.d (.int .i64 0), .d (.int .i64 0)]), (.slot 45, .arr 54 4 0 ((splitR s m i []).1.map W.cells))]⟩)) ∧
    ((splitR s m i []).2.1 ≠ 0 → (∀ lf st, m < lf → prune [] [0, 3, 4, 5] st = some ⟨[(0, .d (.str s)), (3, .ptr (.slot 3) 0), (4, .nilsl), (5, .d (.int .i64 (i : Int)))], [(.slot 3, .cells [.d (.int .i64 0), .d (.int .i64 0)])]⟩ → loopK Try.prog cfg (icall Try.prog cfg j) lp Try.f23.ntmps 23 [] (bodyAt Try.f23 5) lf st (exitP [] (some [2, 3, 4])) = some (.ret, ⟨[(2, .nilsl), (3, .ptr (.slot 3) 0), (4, .nilsl)], [(.slot 3, .cells [.d (.int .i64 (splitR s m i []).2.1), .d (.int .i64 (splitR s m i []).2.2)])]⟩)) ∨ ∃ l es, ∀ lf st, m < lf → prune [] [0, 3, 4, 5] st = some ⟨[(0, .d (.str s)), (3, .ptr (.slot 3) 0), (4, .nilsl), (5, .d (.int .i64 (i : Int)))], [(.slot 3, .cells [.d (.int .i64 0), .d (.int .i64 0)])]⟩ → loopK Try.prog cfg (icall Try.prog cfg j) lp Try.f23.ntmps 23 [] (bodyAt Try.f23 5) lf st (exitP [] (some [2, 3, 4])) = some (.ret, ⟨[(2, .nilsl), (3, .ptr (.slot 3) 0), (4, .own (.slot 45) 0 l)], [(.slot 3, .cells [.d (.int .i64 (splitR s m i []).2.1), .d (.int .i64 (splitR s m i []).2.2)]), (.slot 45, .arr 54 4 0 es)]⟩)) := by
  intro m
  induction m with
  | zero =>
    intro i hm ha
    rw [splitR]
    refine ⟨fun _ => .inl ⟨rfl, fun lf st hlf hp => ?_⟩, fun h => absurd rfl h⟩
    obtain ⟨lf, rfl⟩ : ∃ n, lf = n + 1 := ⟨lf - 1, by omega⟩
    exact s_endN j (by omega) s hs i i rfl (by omega) hlp lf st hp
  | succ m ihm =>
    intro i hm ha
    rw [splitR]
    cases hx : s[i]? with
    | none =>
      refine ⟨fun _ => .inl ⟨rfl, fun lf st hlf hp => ?_⟩, fun h => absurd rfl h⟩
      obtain ⟨lf, rfl⟩ : ∃ n, lf = n + 1 := ⟨lf - 1, by omega⟩
      exact s_endN j (by omega) s hs i i rfl (List.getElem?_eq_none_iff.1 hx) hlp lf st hp
    | some c =>
      simp only []
      have hi := (List.getElem?_eq_some_iff.1 hx).1
      by_cases h0 : c = 32
      · rw [if_pos h0]
        have ez : IntKind.i64.wrap ((i : Int) + 1) = ((i + 1 : Nat) : Int) := by rw [Go.Rx.wrap_i64 (by omega) (by omega)]; omega
        obtain ⟨g1, g2⟩ := ihm (i + 1) (by omega) (by omega)
        have step := fun (r : Option (Fx × St)) lf st hp h => s_blankN j (by omega) s hs i i rfl c hx ((c32 c).2 h0) hlp lf st hp r h
        refine ⟨fun h => ?_, fun h => ?_⟩
        · rcases g1 h with ⟨e, g⟩ | g
          · refine .inl ⟨e, fun lf st hlf hp => ?_⟩
            obtain ⟨lf, rfl⟩ : ∃ n, lf = n + 1 := ⟨lf - 1, by omega⟩
            exact step _ lf st hp (fun st' hp' => g lf st' (by omega) (by rw [hp', ez]))
          · refine .inr (fun lf st hlf hp => ?_)
            obtain ⟨lf, rfl⟩ : ∃ n, lf = n + 1 := ⟨lf - 1, by omega⟩
            exact step _ lf st hp (fun st' hp' => g lf st' (by omega) (by rw [hp', ez]))
        · rcases g2 h with g | ⟨l, es, g⟩
          · refine .inl (fun lf st hlf hp => ?_)
            obtain ⟨lf, rfl⟩ : ∃ n, lf = n + 1 := ⟨lf - 1, by omega⟩
            exact step _ lf st hp (fun st' hp' => g lf st' (by omega) (by rw [hp', ez]))
          · refine .inr ⟨l, es, fun lf st hlf hp => ?_⟩
            obtain ⟨lf, rfl⟩ : ∃ n, lf = n + 1 := ⟨lf - 1, by omega⟩
            exact step _ lf st hp (fun st' hp' => g lf st' (by omega) (by rw [hp', ez]))
      · rw [if_neg h0]
        have h0' : (c.toNat : Int) ≠ 32 := fun h => h0 ((c32 c).1 h)
        have hdl : (s.drop i).length = s.length - i := List.length_drop
        have c1 := one36 (s.drop i) (by omega) c (by rw [List.getElem?_drop, Nat.add_zero]; exact hx) j (by omega)
        have hb := one_bnd (s.drop i) c (by omega)
        have hpos := one_pos (s.drop i) c
        generalize oneW (s.drop i) c = q at *
        obtain ⟨w, nb, er, at'⟩ := q
        simp only [] at c1 hb hpos ⊢
        by_cases he : er = 0
        · subst he
          rw [if_neg (by simp)]
          have ez : IntKind.i64.wrap ((i : Int) + (nb : Int)) = ((i + nb : Nat) : Int) := by rw [Go.Rx.wrap_i64 (by omega) (by omega)]; omega
          have hpos := hpos rfl
          obtain ⟨g1, g2⟩ := splitO s hs j hj hlp m (i + nb) ([] ++ [{ w with at' := (i : Int) }]) (by omega) (by simp; omega)
          have conv : ∀ st' : St, prune [] [0, 3, 4, 5] st' = some ⟨[(0, .d (.str s)), (3, .ptr (.slot 3) 0), (4, .own (.slot 45) 0 1), (5, .d (.int .i64 (IntKind.i64.wrap ((i : Int) + (nb : Int)))))], [(.slot 3, .cells [.d (.int .i64 0), .d (.int .i64 0)]), (.slot 45, .arr 54 4 0 [[.int .i64 w.k, .str w.t, .int .i64 w.n, .int .i64 (i : Int)]])]⟩ → prune [] [0, 3, 4, 5] st' = some ⟨[(0, .d (.str s)), (3, .ptr (.slot 3) 0), (4, .own (.slot 45) 0 ([] ++ [({ w with at' := (i : Int) } : W)]).length), (5, .d (.int .i64 ((i + nb : Nat) : Int)))], [(.slot 3, .cells [.d (.int .i64 0), .d (.int .i64 0)]), (.slot 45, .arr 54 4 0 (([] ++ [({ w with at' := (i : Int) } : W)]).map W.cells))]⟩ := fun st' hp' => by
            rw [hp', ez]; rfl
          refine ⟨fun h => .inr (fun lf st hlf hp => ?_), fun h => ?_⟩
          · obtain ⟨lf, rfl⟩ : ∃ n, lf = n + 1 := ⟨lf - 1, by omega⟩
            exact s_wordN j (by omega) s hs i i rfl c hx h0' w nb at' c1 hlp lf st hp _ (fun st' hp' => g1 h lf st' (by omega) (conv st' hp'))
          · obtain ⟨l, es, g⟩ := g2 h
            refine .inr ⟨l, es, fun lf st hlf hp => ?_⟩
            obtain ⟨lf, rfl⟩ : ∃ n, lf = n + 1 := ⟨lf - 1, by omega⟩
            exact s_wordN j (by omega) s hs i i rfl c hx h0' w nb at' c1 hlp lf st hp _ (fun st' hp' => g lf st' (by omega) (conv st' hp'))
        · rw [if_pos he]
          refine ⟨fun h => absurd h he, fun _ => .inl (fun lf st hlf hp => ?_)⟩
          obtain ⟨lf, rfl⟩ : ∃ n, lf = n + 1 := ⟨lf - 1, by omega⟩
          have ea : IntKind.i64.wrap ((i : Int) + (at' : Int)) = (i : Int) + (at' : Int) := Go.Rx.wrap_i64 (by omega) (by omega)
          have := s_badN j (by omega) s hs i i rfl c hx h0' w nb er at' c1 he hlp lf st hp
          rw [ea] at this
          exact this
theorem splitR_bad (s : List UInt8) : ∀ (m i : Nat) (acc : List W), (splitR s m i acc).2.1 ≠ 0 → (splitR s m i acc).1 = [] := by
  intro m
  induction m with
  | zero => intro i acc h; exact absurd rfl h
  | succ m ih =>
    intro i acc h
    rw [splitR] at h ⊢
    cases hx : s[i]? with
    | none => rw [hx] at h; exact absurd rfl h
    | some c =>
      rw [hx] at h
      simp only [] at h ⊢
      split
      · rename_i h0; rw [if_pos h0] at h; exact ih _ _ h
      · rename_i h0
        rw [if_neg h0] at h
        split
        · rfl
        · rename_i h1; rw [if_neg h1] at h; exact ih _ _ h
theorem splitR_ok (s : List UInt8) : ∀ (m i : Nat) (acc : List W), (splitR s m i acc).2.1 = 0 → (splitR s m i acc).2.2 = 0 := by
  intro m
  induction m with
  | zero => intro i acc h; rfl
  | succ m ih =>
    intro i acc h
    rw [splitR] at h ⊢
    cases hx : s[i]? with
    | none => rfl
    | some c =>
      rw [hx] at h
      simp only [] at h ⊢
      split
      · rename_i h0; rw [if_pos h0] at h; exact ih _ _ h
      · rename_i h0
        rw [if_neg h0] at h
        split
        · rename_i h1; rw [if_pos h1] at h; exact absurd h h1
        · rename_i h1; rw [if_neg h1] at h; exact ih _ _ h
theorem split23 (s : List UInt8) (k : Nat) (hk : s.length + 200 < k) : icall Try.prog cfg k 23 [.d (.str s)] [] = some (.ret (.tuple [.d (.list ((splitS s).1.map W.cells)), .agg [.d (.int .i64 (splitS s).2.1), .d (.int .i64 (splitS s).2.2)]]), []) := by
  obtain ⟨k, rfl⟩ : ∃ j, k = j + 1 := ⟨k - 1, by omega⟩
  unfold splitS
  by_cases hbig : s.length > 4096
  · rw [if_pos hbig]
    have hb : (s.length : Int) > 4096 := by omega
    rw [icall_body rfl Try.func23]
    obtain ⟨lp, hlp⟩ : ∃ lp, lp = lpOf Try.prog cfg (icall Try.prog cfg k) Try.f23.ntmps 23 k (([] : Hp).map (·.1)) := ⟨_, rfl⟩
    rw [← hlp]
    conv => lhs; whnf
    refine iteK_dec_t hb ?_
    conv => lhs; whnf
    refine Eq.trans (b := some (Res.ret (AV.tuple [AV.d (D.list []), AV.agg [AV.d (D.int IntKind.i64 (6 : Int)), AV.d (D.int IntKind.i64 (0 : Int))]]), [])) (by kernel_rfl) ?_
    rfl
  · rw [if_neg hbig, split_same]
    have hb : ¬ (s.length : Int) > 4096 := by omega
    obtain ⟨lp, hlp⟩ : ∃ lp, lp = lpOf Try.prog cfg (icall Try.prog cfg k) Try.f23.ntmps 23 k (([] : Hp).map (·.1)) := ⟨_, rfl⟩
    obtain ⟨g1, g2⟩ := splitN s (by omega) k (by omega) hlp s.length 0 (by omega) (by omega)
    have hbd := splitR_bad s s.length 0 []
    have hba := splitR_ok s s.length 0 []
    rw [icall_body rfl Try.func23, ← hlp]
    generalize splitR s s.length 0 [] = q at *
    obtain ⟨ws, er, at'⟩ := q
    simp only [] at g1 g2 hbd hba ⊢
    have hl : (ws.map W.cells).length = ws.length := List.length_map ..
    by_cases he : er = 0
    · have ha0 := hba he
      subst he ha0
      rcases g1 rfl with ⟨e, g⟩ | g
      · subst e
        have g := g k
        conv => lhs; whnf
        refine iteK_dec_f hb ?_
        conv => lhs; whnf
        refine nextK_of (loop_at hlp (g _ (by omega) rfl)) ?_
        conv => lhs; whnf
        refine Eq.trans (b := some (Res.ret (AV.tuple [AV.d (D.list []), AV.agg [AV.d (D.int IntKind.i64 (0 : Int)), AV.d (D.int IntKind.i64 (0 : Int))]]), [])) (by kernel_rfl) ?_
        rfl
      · have g := g k
        have ht : (ws.map W.cells).take ws.length = ws.map W.cells := by rw [List.take_of_length_le (by omega)]
        conv => lhs; whnf
        refine iteK_dec_f hb ?_
        conv => lhs; whnf
        refine nextK_of (loop_at hlp (g _ (by omega) rfl)) ?_
        conv => lhs; whnf
        refine Eq.trans (b := some (Res.ret (AV.tuple [AV.d (D.list (List.take (List.length ws) (List.map W.cells ws))), AV.agg [AV.d (D.int IntKind.i64 (0 : Int)), AV.d (D.int IntKind.i64 (0 : Int))]]), [])) (by kernel_rfl) ?_
        (rw [ht])
    · rw [hbd he]
      rcases g2 he with g | ⟨l, es, g⟩
      · have g := g k
        conv => lhs; whnf
        refine iteK_dec_f hb ?_
        conv => lhs; whnf
        refine nextK_of (loop_at hlp (g _ (by omega) rfl)) ?_
        conv => lhs; whnf
        refine Eq.trans (b := some (Res.ret (AV.tuple [AV.d (D.list []), AV.agg [AV.d (D.int IntKind.i64 er), AV.d (D.int IntKind.i64 at')]]), [])) (by kernel_rfl) ?_
        rfl
      · have g := g k
        conv => lhs; whnf
        refine iteK_dec_f hb ?_
        conv => lhs; whnf
        refine nextK_of (loop_at hlp (g _ (by omega) rfl)) ?_
        conv => lhs; whnf
        refine Eq.trans (b := some (Res.ret (AV.tuple [AV.d (D.list []), AV.agg [AV.d (D.int IntKind.i64 er), AV.d (D.int IntKind.i64 at')]]), [])) (by kernel_rfl) ?_
        rfl
end Go.Rx07
