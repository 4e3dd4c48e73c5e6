/- A part of the proof of the law: what functions of the program come to, walked by Rx, or plain facts on it. -/
import Derived.Test.YtbeppoonnbfdeaaRLexR
import Derived.Test.YtbeppoonnbfdeaaRSpecLR
open Go Go.Rx Go.Proofs Go.Rx07 Go.RxTree
set_option maxRecDepth 1000000
set_option maxHeartbeats 4000000
set_option linter.unusedVariables false
set_option linter.unusedSimpArgs false
namespace Go.Rx07
theorem wrap_n {n : Int} (h : 0 ≤ n) (h2 : n ≤ 9223372036854775807) : IntKind.i64.wrap n = n := Go.Rx.wrap_i64 (by omega) h2
theorem numL_end (j : Nat) (s : List UInt8) (n z : Int) (hz : z = (s.length : Int)) {lp : LP} (hlp : lp = lpOf Try.prog cfg (icall Try.prog cfg j) Try.f51.ntmps 51 j (([] : Hp).map (·.1))) (lf : Nat) (st : St) (hp : prune [] [0, 4, 5] st = some ⟨[(0, .d (.str s)), (4, .d (.int .u64 n)), (5, .d (.int .i64 z))], []⟩) : loopK Try.prog cfg (icall Try.prog cfg j) lp Try.f51.ntmps 51 [] (bodyAt Try.f51 3) (lf + 1) st (exitP [] (some [2, 3, 4])) = some (.exit 0, ⟨[(2, .undef), (3, .undef), (4, .d (.int .u64 n))], []⟩) := by
  refine loop_step hp ?_
  have hend : ¬ z < (s.length : Int) := by omega
  conv => lhs; whnf
  refine iteK_dec_f hend ?_
  conv => lhs; whnf
  refine Eq.trans (b := some (Fx.exit (0 : Nat), St.mk [((2 : Nat), AV.undef), ((3 : Nat), AV.undef), ((4 : Nat), AV.d (D.int IntKind.u64 n))] [])) (by kernel_rfl) ?_
  rfl
theorem numL_big (j : Nat) (s : List UInt8) (n z : Int) (hz : z < (s.length : Int)) (hn : n > 922337203685477580) {lp : LP} (hlp : lp = lpOf Try.prog cfg (icall Try.prog cfg j) Try.f51.ntmps 51 j (([] : Hp).map (·.1))) (lf : Nat) (st : St) (hp : prune [] [0, 4, 5] st = some ⟨[(0, .d (.str s)), (4, .d (.int .u64 n)), (5, .d (.int .i64 z))], []⟩) : loopK Try.prog cfg (icall Try.prog cfg j) lp Try.f51.ntmps 51 [] (bodyAt Try.f51 3) (lf + 1) st (exitP [] (some [2, 3, 4])) = some (.ret, ⟨[(2, .d (.int .i64 0)), (3, .d (.bool false)), (4, .d (.int .u64 n))], []⟩) := by
  refine loop_step hp ?_
  conv => lhs; whnf
  refine iteK_dec_t hz ?_
  conv => lhs; whnf
  refine iteK_dec_t hn ?_
  conv => lhs; whnf
  refine Eq.trans (b := some (Fx.ret, St.mk [((2 : Nat), AV.d (D.int IntKind.i64 (0 : Int))), ((3 : Nat), AV.d (D.bool false)), ((4 : Nat), AV.d (D.int IntKind.u64 n))] [])) (by kernel_rfl) ?_
  rfl
theorem numL_ovf (j : Nat) (s : List UInt8) (n z : Int) (hz : z < (s.length : Int)) (hn : ¬ n > 922337203685477580) (i : Nat) (hi : z = (i : Int)) (c : UInt8) (hx : s[i]? = some c) (m : Int) (hm : IntKind.u64.wrap (IntKind.u64.wrap (IntKind.u64.wrap (n * 10) + IntKind.u64.wrap (c.toNat : Int)) - 48) = m) (ho : m > 9223372036854775807) {lp : LP} (hlp : lp = lpOf Try.prog cfg (icall Try.prog cfg j) Try.f51.ntmps 51 j (([] : Hp).map (·.1))) (lf : Nat) (st : St) (hp : prune [] [0, 4, 5] st = some ⟨[(0, .d (.str s)), (4, .d (.int .u64 n)), (5, .d (.int .i64 z))], []⟩) : loopK Try.prog cfg (icall Try.prog cfg j) lp Try.f51.ntmps 51 [] (bodyAt Try.f51 3) (lf + 1) st (exitP [] (some [2, 3, 4])) = some (.ret, ⟨[(2, .d (.int .i64 0)), (3, .d (.bool false)), (4, .d (.int .u64 m))], []⟩) := by
  subst hm
  refine loop_step hp ?_
  conv => lhs; whnf
  refine iteK_dec_t hz ?_
  conv => lhs; whnf
  refine iteK_dec_f hn ?_
  conv => lhs; whnf
  refine nextK_of (aop_ixS rfl rfl rfl (ixS_at' hi hx)) ?_
  conv => lhs; whnf
  refine iteK_dec_t ho ?_
  conv => lhs; whnf
  refine Eq.trans (b := some (Fx.ret, St.mk [((2 : Nat), AV.d (D.int IntKind.i64 (0 : Int))), ((3 : Nat), AV.d (D.bool false)), ((4 : Nat), AV.d (D.int IntKind.u64 (IntKind.wrap IntKind.u64 (IntKind.wrap IntKind.u64 (IntKind.wrap IntKind.u64 (n * (10 : Int)) + IntKind.wrap IntKind.u64 ↑c.toBitVec.toFin.1) - (48 : Int)))))] [])) (by kernel_rfl) ?_
  rfl
theorem numL_next (j : Nat) (s : List UInt8) (n z : Int) (hz : z < (s.length : Int)) (hn : ¬ n > 922337203685477580) (i : Nat) (hi : z = (i : Int)) (c : UInt8) (hx : s[i]? = some c) (m : Int) (hm : IntKind.u64.wrap (IntKind.u64.wrap (IntKind.u64.wrap (n * 10) + IntKind.u64.wrap (c.toNat : Int)) - 48) = m) (ho : ¬ m > 9223372036854775807) {lp : LP} (hlp : lp = lpOf Try.prog cfg (icall Try.prog cfg j) Try.f51.ntmps 51 j (([] : Hp).map (·.1))) (lf : Nat) (st : St) (hp : prune [] [0, 4, 5] st = some ⟨[(0, .d (.str s)), (4, .d (.int .u64 n)), (5, .d (.int .i64 z))], []⟩) (r : Option (Fx × St))
    (hih : ∀ st', prune [] [0, 4, 5] st' = some ⟨[(0, .d (.str s)), (4, .d (.int .u64 m)), (5, .d (.int .i64 (IntKind.i64.wrap (z + 1))))], []⟩ → loopK Try.prog cfg (icall Try.prog cfg j) lp Try.f51.ntmps 51 [] (bodyAt Try.f51 3) lf st' (exitP [] (some [2, 3, 4])) = r) : loopK Try.prog cfg (icall Try.prog cfg j) lp Try.f51.ntmps 51 [] (bodyAt Try.f51 3) (lf + 1) st (exitP [] (some [2, 3, 4])) = r := by
  subst hm
  refine loop_step hp ?_
  conv => lhs; whnf
  refine iteK_dec_t hz ?_
  conv => lhs; whnf
  refine iteK_dec_f hn ?_
  conv => lhs; whnf
  refine nextK_of (aop_ixS rfl rfl rfl (ixS_at' hi hx)) ?_
  conv => lhs; whnf
  refine iteK_dec_f ho ?_
  conv => lhs; whnf
  refine Eq.trans (hih _ rfl) ?_
  rfl
theorem numL (s : List UInt8) (hs : s.length ≤ 4096) (hd : ∀ c ∈ s, kindB c = 1) (j : Nat) {lp : LP} (hlp : lp = lpOf Try.prog cfg (icall Try.prog cfg j) Try.f51.ntmps 51 j (([] : Hp).map (·.1))) : ∀ (m i n : Nat) (z : Int) (lf : Nat) (st : St), s.length - i ≤ m → i ≤ s.length → z = (i : Int) → n ≤ 9223372036854775807 → m < lf → prune [] [0, 4, 5] st = some ⟨[(0, .d (.str s)), (4, .d (.int .u64 (n : Int))), (5, .d (.int .i64 z))], []⟩ →
    loopK Try.prog cfg (icall Try.prog cfg j) lp Try.f51.ntmps 51 [] (bodyAt Try.f51 3) lf st (exitP [] (some [2, 3, 4])) = if (numE n (s.drop i)).1 = true then some (.exit 0, ⟨[(2, .undef), (3, .undef), (4, .d (.int .u64 ((numE n (s.drop i)).2 : Int)))], []⟩) else some (.ret, ⟨[(2, .d (.int .i64 0)), (3, .d (.bool false)), (4, .d (.int .u64 ((numE n (s.drop i)).2 : Int)))], []⟩) := by
  intro m
  induction m with
  | zero =>
    intro i n z lf st hm hi hz hn hlf hp
    obtain ⟨lf, rfl⟩ : ∃ n, lf = n + 1 := ⟨lf - 1, by omega⟩
    rw [List.drop_eq_nil_of_le (by omega), numE, if_pos rfl]
    exact numL_end j s n z (by omega) hlp lf st hp
  | succ m ihm =>
    intro i n z lf st hm hi hz hn hlf hp
    obtain ⟨lf, rfl⟩ : ∃ n, lf = n + 1 := ⟨lf - 1, by omega⟩
    by_cases he : s.length ≤ i
    · rw [List.drop_eq_nil_of_le he, numE, if_pos rfl]
      exact numL_end j s n z (by omega) hlp lf st hp
    · have hx : s[i]? = some s[i] := List.getElem?_eq_getElem (by omega)
      have hc := kind_d (hd s[i] (List.getElem_mem _))
      rw [List.drop_eq_getElem_cons (show i < s.length by omega), numE]
      generalize s[i] = c at *
      by_cases h1 : n > 922337203685477580
      · rw [if_pos h1]
        exact numL_big j s n z (by omega) (by omega) hlp lf st hp
      · rw [if_neg h1]
        have em : IntKind.u64.wrap (IntKind.u64.wrap (IntKind.u64.wrap ((n : Int) * 10) + IntKind.u64.wrap (c.toNat : Int)) - 48) = ((n * 10 + c.toNat - 48 : Nat) : Int) := by
          rw [Go.Rx.wrap_u64 (n := (n : Int) * 10) (by omega) (by omega), Go.Rx.wrap_u64 (n := (c.toNat : Int)) (by omega) (by omega), Go.Rx.wrap_u64 (n := (n : Int) * 10 + c.toNat) (by omega) (by omega), Go.Rx.wrap_u64 (by omega) (by omega)]; omega
        by_cases h2 : n * 10 + c.toNat - 48 > 9223372036854775807
        · rw [if_pos h2]
          exact numL_ovf j s n z (by omega) (by omega) i hz c hx _ em (by omega) hlp lf st hp
        · rw [if_neg h2]
          have ez : IntKind.i64.wrap (z + 1) = ((i + 1 : Nat) : Int) := by rw [Go.Rx.wrap_i64 (by omega) (by omega)]; omega
          exact numL_next j s n z (by omega) (by omega) i hz c hx _ em (by omega) hlp lf st hp _ (fun st' hp' => ihm (i + 1) (n * 10 + c.toNat - 48) _ lf st' (by omega) (by omega) ez (by omega) (by omega) hp')
theorem numE_le : ∀ (r : List UInt8) (n : Nat), n ≤ 9223372036854775807 → (numE n r).1 = true → (numE n r).2 ≤ 9223372036854775807
  | [], n, h, _ => h
  | c :: r, n, h, h1 => by
    rw [numE] at h1 ⊢
    split
    · rename_i h2; rw [if_pos h2] at h1; cases h1
    · rename_i h2; rw [if_neg h2] at h1
      split
      · rename_i h3; rw [if_pos h3] at h1; cases h1
      · rename_i h3; rw [if_neg h3] at h1; exact numE_le r _ (by omega) h1
theorem number51 (s : List UInt8) (hs : s.length ≤ 4096) (hd : ∀ c ∈ s, kindB c = 1) (k : Nat) (hk : s.length + 1 < k) : icall Try.prog cfg k 51 [.d (.str s)] [] = some (.ret (.tuple [.d (.int .i64 (if (numE 0 s).1 = true then ((numE 0 s).2 : Int) else 0)), .d (.bool (numE 0 s).1)]), []) := by
  obtain ⟨k, rfl⟩ : ∃ j, k = j + 1 := ⟨k - 1, by omega⟩
  have hL := fun (lp : LP) (hlp : lp = lpOf Try.prog cfg (icall Try.prog cfg k) Try.f51.ntmps 51 k (([] : Hp).map (·.1))) st hp => numL s hs hd k hlp s.length 0 0 0 k st (by omega) (by omega) rfl (by omega) (by omega) hp
  rw [List.drop_zero] at hL
  have hle := numE_le s 0 (by omega)
  cases hq : (numE 0 s).1
  · rw [hq] at hL
    simp only [Bool.false_eq_true, if_false] at hL ⊢
    generalize (numE 0 s).2 = v at *
    rw [icall_body rfl Try.func51]
    obtain ⟨lp, hlp⟩ : ∃ lp, lp = lpOf Try.prog cfg (icall Try.prog cfg k) Try.f51.ntmps 51 k (([] : Hp).map (·.1)) := ⟨_, rfl⟩
    rw [← hlp]
    conv => lhs; whnf
    refine nextK_of (loop_at hlp (hL lp hlp _ rfl)) ?_
    conv => lhs; whnf
    refine Eq.trans (b := some (Res.ret (AV.tuple [AV.d (D.int IntKind.i64 (0 : Int)), AV.d (D.bool false)]), [])) (by kernel_rfl) ?_
    rfl
  · have hle := hle hq
    rw [hq] at hL
    simp only [if_true] at hL ⊢
    generalize (numE 0 s).2 = v at *
    have hw : IntKind.i64.wrap (v : Int) = v := wrap_n (by omega) (by omega)
    rw [icall_body rfl Try.func51]
    obtain ⟨lp, hlp⟩ : ∃ lp, lp = lpOf Try.prog cfg (icall Try.prog cfg k) Try.f51.ntmps 51 k (([] : Hp).map (·.1)) := ⟨_, rfl⟩
    rw [← hlp]
    conv => lhs; whnf
    refine nextK_of (loop_at hlp (hL lp hlp _ rfl)) ?_
    conv => lhs; whnf
    refine Eq.trans (b := some (Res.ret (AV.tuple [AV.d (D.int IntKind.i64 (IntKind.wrap IntKind.i64 ↑v)), AV.d (D.bool true)]), [])) (by kernel_rfl) ?_
    (rw [hw])
theorem dig_end (j : Nat) (hj : 10 < j) (s : List UInt8) (z : Int) (i : Nat) (hz : z = (i : Int)) (he : s.length ≤ i) {lp : LP} (hlp : lp = lpOf Try.prog cfg (icall Try.prog cfg j) Try.f36.ntmps 36 j (([] : Hp).map (·.1))) (lf : Nat) (st : St) (hp : prune [] [0, 2, 6] st = some ⟨[(0, .d (.str s)), (2, .ptr (.slot 2) 0), (6, .d (.int .i64 z))], [(.slot 2, .cells [.d (.int .i64 0), .d (.str []), .d (.int .i64 0), .d (.int .i64 0)])]⟩) : loopK Try.prog cfg (icall Try.prog cfg j) lp Try.f36.ntmps 36 [] (bodyAt Try.f36 5) (lf + 1) st (exitP [] (some [0, 2, 6])) = some (.exit 0, ⟨[(0, .d (.str s)), (2, .ptr (.slot 2) 0), (6, .d (.int .i64 z))], [(.slot 2, .cells [.d (.int .i64 0), .d (.str []), .d (.int .i64 0), .d (.int .i64 0)])]⟩) := by
  refine loop_step hp ?_
  have hend : ¬ z < (s.length : Int) := by omega
  conv => lhs; whnf
  refine iteK_dec_f hend ?_
  conv => lhs; whnf
  refine iteK_dec_f hend ?_
  conv => lhs; whnf
  refine iteK_dec_f hend ?_
  conv => lhs; whnf
  refine iteK_dec_f hend ?_
  conv => lhs; whnf
  refine iteK_dec_f hend ?_
  conv => lhs; whnf
  refine Eq.trans (b := some (Fx.exit (0 : Nat), St.mk [((0 : Nat), AV.d (D.str s)), ((2 : Nat), AV.ptr (Nm.slot (2 : Nat)) (0 : Nat)), ((6 : Nat), AV.d (D.int IntKind.i64 z))] [(Nm.slot (2 : Nat), AObj.cells [AV.d (D.int IntKind.i64 (0 : Int)), AV.d (D.str []), AV.d (D.int IntKind.i64 (0 : Int)), AV.d (D.int IntKind.i64 (0 : Int))])])) (by kernel_rfl) ?_
  rfl
theorem dig_not (j : Nat) (hj : 10 < j) (s : List UInt8) (z : Int) (i : Nat) (hz : z = (i : Int)) (c : UInt8) (hx : s[i]? = some c) (hk : kindB c ≠ 1) {lp : LP} (hlp : lp = lpOf Try.prog cfg (icall Try.prog cfg j) Try.f36.ntmps 36 j (([] : Hp).map (·.1))) (lf : Nat) (st : St) (hp : prune [] [0, 2, 6] st = some ⟨[(0, .d (.str s)), (2, .ptr (.slot 2) 0), (6, .d (.int .i64 z))], [(.slot 2, .cells [.d (.int .i64 0), .d (.str []), .d (.int .i64 0), .d (.int .i64 0)])]⟩) : loopK Try.prog cfg (icall Try.prog cfg j) lp Try.f36.ntmps 36 [] (bodyAt Try.f36 5) (lf + 1) st (exitP [] (some [0, 2, 6])) = some (.exit 0, ⟨[(0, .d (.str s)), (2, .ptr (.slot 2) 0), (6, .d (.int .i64 z))], [(.slot 2, .cells [.d (.int .i64 0), .d (.str []), .d (.int .i64 0), .d (.int .i64 0)])]⟩) := by
  have hi := (List.getElem?_eq_some_iff.1 hx).1
  have hend : z < (s.length : Int) := by omega
  have c1 := digitR c j (by omega)
  have c2 := letterR c j (by omega)
  rw [show (kindB c == 1) = false by simp; omega] at c1
  refine loop_step hp ?_
  conv => lhs; whnf
  refine iteK_dec_t hend ?_
  conv => lhs; whnf
  refine iteK_dec_t hend ?_
  conv => lhs; whnf
  refine iteK_dec_t hend ?_
  conv => lhs; whnf
  refine nextK_of (aop_ixS rfl rfl rfl (ixS_at' hz hx)) ?_
  conv => lhs; whnf
  refine iteK_dec_t hend ?_
  conv => lhs; whnf
  refine nextK_of c1 ?_
  conv => lhs; whnf
  refine iteK_dec_t hend ?_
  conv => lhs; whnf
  refine Eq.trans (b := some (Fx.exit (0 : Nat), St.mk [((0 : Nat), AV.d (D.str s)), ((2 : Nat), AV.ptr (Nm.slot (2 : Nat)) (0 : Nat)), ((6 : Nat), AV.d (D.int IntKind.i64 z))] [(Nm.slot (2 : Nat), AObj.cells [AV.d (D.int IntKind.i64 (0 : Int)), AV.d (D.str []), AV.d (D.int IntKind.i64 (0 : Int)), AV.d (D.int IntKind.i64 (0 : Int))])])) (by kernel_rfl) ?_
  rfl
theorem dig_next (j : Nat) (hj : 10 < j) (s : List UInt8) (z : Int) (i : Nat) (hz : z = (i : Int)) (c : UInt8) (hx : s[i]? = some c) (hk : kindB c = 1) {lp : LP} (hlp : lp = lpOf Try.prog cfg (icall Try.prog cfg j) Try.f36.ntmps 36 j (([] : Hp).map (·.1))) (lf : Nat) (st : St) (hp : prune [] [0, 2, 6] st = some ⟨[(0, .d (.str s)), (2, .ptr (.slot 2) 0), (6, .d (.int .i64 z))], [(.slot 2, .cells [.d (.int .i64 0), .d (.str []), .d (.int .i64 0), .d (.int .i64 0)])]⟩) (r : Option (Fx × St))
    (hih : ∀ st', prune [] [0, 2, 6] st' = some ⟨[(0, .d (.str s)), (2, .ptr (.slot 2) 0), (6, .d (.int .i64 (IntKind.i64.wrap (z + 1))))], [(.slot 2, .cells [.d (.int .i64 0), .d (.str []), .d (.int .i64 0), .d (.int .i64 0)])]⟩ → loopK Try.prog cfg (icall Try.prog cfg j) lp Try.f36.ntmps 36 [] (bodyAt Try.f36 5) lf st' (exitP [] (some [0, 2, 6])) = r) : loopK Try.prog cfg (icall Try.prog cfg j) lp Try.f36.ntmps 36 [] (bodyAt Try.f36 5) (lf + 1) st (exitP [] (some [0, 2, 6])) = r := by
  have hi := (List.getElem?_eq_some_iff.1 hx).1
  have hend : z < (s.length : Int) := by omega
  have c1 := digitR c j (by omega)
  have c2 := letterR c j (by omega)
  refine loop_step hp ?_
  rw [hk] at c1
  conv => lhs; whnf
  refine iteK_dec_t hend ?_
  conv => lhs; whnf
  refine iteK_dec_t hend ?_
  conv => lhs; whnf
  refine iteK_dec_t hend ?_
  conv => lhs; whnf
  refine nextK_of (aop_ixS rfl rfl rfl (ixS_at' hz hx)) ?_
  conv => lhs; whnf
  refine iteK_dec_t hend ?_
  conv => lhs; whnf
  refine nextK_of c1 ?_
  conv => lhs; whnf
  refine iteK_dec_t hend ?_
  conv => lhs; whnf
  refine Eq.trans (hih _ rfl) ?_
  rfl
theorem digL (s : List UInt8) (hs : s.length ≤ 4096) (j : Nat) (hj : 10 < j) {lp : LP} (hlp : lp = lpOf Try.prog cfg (icall Try.prog cfg j) Try.f36.ntmps 36 j (([] : Hp).map (·.1))) : ∀ (m i : Nat) (z : Int) (lf : Nat) (st : St), s.length - i ≤ m → i ≤ s.length → z = (i : Int) → m < lf → prune [] [0, 2, 6] st = some ⟨[(0, .d (.str s)), (2, .ptr (.slot 2) 0), (6, .d (.int .i64 z))], [(.slot 2, .cells [.d (.int .i64 0), .d (.str []), .d (.int .i64 0), .d (.int .i64 0)])]⟩ → loopK Try.prog cfg (icall Try.prog cfg j) lp Try.f36.ntmps 36 [] (bodyAt Try.f36 5) lf st (exitP [] (some [0, 2, 6])) = some (.exit 0, ⟨[(0, .d (.str s)), (2, .ptr (.slot 2) 0), (6, .d (.int .i64 (digE i (s.drop i) : Nat)))], [(.slot 2, .cells [.d (.int .i64 0), .d (.str []), .d (.int .i64 0), .d (.int .i64 0)])]⟩) := by
  intro m
  induction m with
  | zero =>
    intro i z lf st hm hi hz hlf hp
    obtain ⟨lf, rfl⟩ : ∃ n, lf = n + 1 := ⟨lf - 1, by omega⟩
    rw [List.drop_eq_nil_of_le (by omega), digE]
    rw [dig_end j hj s z i hz (by omega) hlp lf st hp, hz]
  | succ m ihm =>
    intro i z lf st hm hi hz hlf hp
    obtain ⟨lf, rfl⟩ : ∃ n, lf = n + 1 := ⟨lf - 1, by omega⟩
    by_cases he : s.length ≤ i
    · rw [List.drop_eq_nil_of_le he, digE]
      rw [dig_end j hj s z i hz he hlp lf st hp, hz]
    · have hx : s[i]? = some s[i] := List.getElem?_eq_getElem (by omega)
      rw [List.drop_eq_getElem_cons (show i < s.length by omega), digE]
      generalize s[i] = c at *
      by_cases hk : kindB c = 1
      · rw [if_pos hk]
        have ez : IntKind.i64.wrap (z + 1) = ((i + 1 : Nat) : Int) := by rw [Go.Rx.wrap_i64 (by omega) (by omega)]; omega
        exact dig_next j hj s z i hz c hx hk hlp lf st hp _ (fun st' hp' => ihm (i + 1) _ lf st' (by omega) (by omega) ez (by omega) hp')
      · rw [if_neg hk]
        rw [dig_not j hj s z i hz c hx hk hlp lf st hp, hz]
theorem nam_end (j : Nat) (hj : 10 < j) (s : List UInt8) (z : Int) (i : Nat) (hz : z = (i : Int)) (he : s.length ≤ i) {lp : LP} (hlp : lp = lpOf Try.prog cfg (icall Try.prog cfg j) Try.f36.ntmps 36 j (([] : Hp).map (·.1))) (lf : Nat) (st : St) (hp : prune [] [0, 2, 6] st = some ⟨[(0, .d (.str s)), (2, .ptr (.slot 2) 0), (6, .d (.int .i64 z))], [(.slot 2, .cells [.d (.int .i64 0), .d (.str []), .d (.int .i64 0), .d (.int .i64 0)])]⟩) : loopK Try.prog cfg (icall Try.prog cfg j) lp Try.f36.ntmps 36 [] (bodyAt Try.f36 15) (lf + 1) st (exitP [] (some [0, 2, 6])) = some (.exit 2, ⟨[(0, .d (.str s)), (2, .ptr (.slot 2) 0), (6, .d (.int .i64 z))], [(.slot 2, .cells [.d (.int .i64 0), .d (.str []), .d (.int .i64 0), .d (.int .i64 0)])]⟩) := by
  refine loop_step hp ?_
  have hend : ¬ z < (s.length : Int) := by omega
  conv => lhs; whnf
  refine iteK_dec_f hend ?_
  conv => lhs; whnf
  refine iteK_dec_f hend ?_
  conv => lhs; whnf
  refine iteK_dec_f hend ?_
  conv => lhs; whnf
  refine iteK_dec_f hend ?_
  conv => lhs; whnf
  refine iteK_dec_f hend ?_
  conv => lhs; whnf
  refine iteK_dec_f hend ?_
  conv => lhs; whnf
  refine iteK_dec_f hend ?_
  conv => lhs; whnf
  refine Eq.trans (b := some (Fx.exit (2 : Nat), St.mk [((0 : Nat), AV.d (D.str s)), ((2 : Nat), AV.ptr (Nm.slot (2 : Nat)) (0 : Nat)), ((6 : Nat), AV.d (D.int IntKind.i64 z))] [(Nm.slot (2 : Nat), AObj.cells [AV.d (D.int IntKind.i64 (0 : Int)), AV.d (D.str []), AV.d (D.int IntKind.i64 (0 : Int)), AV.d (D.int IntKind.i64 (0 : Int))])])) (by kernel_rfl) ?_
  rfl
theorem nam_not (j : Nat) (hj : 10 < j) (s : List UInt8) (z : Int) (i : Nat) (hz : z = (i : Int)) (c : UInt8) (hx : s[i]? = some c) (hk : ¬ (kindB c = 2 ∨ kindB c = 1)) {lp : LP} (hlp : lp = lpOf Try.prog cfg (icall Try.prog cfg j) Try.f36.ntmps 36 j (([] : Hp).map (·.1))) (lf : Nat) (st : St) (hp : prune [] [0, 2, 6] st = some ⟨[(0, .d (.str s)), (2, .ptr (.slot 2) 0), (6, .d (.int .i64 z))], [(.slot 2, .cells [.d (.int .i64 0), .d (.str []), .d (.int .i64 0), .d (.int .i64 0)])]⟩) : loopK Try.prog cfg (icall Try.prog cfg j) lp Try.f36.ntmps 36 [] (bodyAt Try.f36 15) (lf + 1) st (exitP [] (some [0, 2, 6])) = some (.exit 2, ⟨[(0, .d (.str s)), (2, .ptr (.slot 2) 0), (6, .d (.int .i64 z))], [(.slot 2, .cells [.d (.int .i64 0), .d (.str []), .d (.int .i64 0), .d (.int .i64 0)])]⟩) := by
  have hi := (List.getElem?_eq_some_iff.1 hx).1
  have hend : z < (s.length : Int) := by omega
  have c1 := digitR c j (by omega)
  have c2 := letterR c j (by omega)
  rw [show (kindB c == 1) = false by simp; omega] at c1
  rw [show (kindB c == 2) = false by simp; omega] at c2
  refine loop_step hp ?_
  conv => lhs; whnf
  refine iteK_dec_t hend ?_
  conv => lhs; whnf
  refine iteK_dec_t hend ?_
  conv => lhs; whnf
  refine iteK_dec_t hend ?_
  conv => lhs; whnf
  refine nextK_of (aop_ixS rfl rfl rfl (ixS_at' hz hx)) ?_
  conv => lhs; whnf
  refine iteK_dec_t hend ?_
  conv => lhs; whnf
  refine nextK_of c2 ?_
  conv => lhs; whnf
  refine iteK_dec_t hend ?_
  conv => lhs; whnf
  refine nextK_of (aop_ixS rfl rfl rfl (ixS_at' hz hx)) ?_
  conv => lhs; whnf
  refine nextK_of c1 ?_
  conv => lhs; whnf
  refine iteK_dec_t hend ?_
  conv => lhs; whnf
  refine iteK_dec_t hend ?_
  conv => lhs; whnf
  refine Eq.trans (b := some (Fx.exit (2 : Nat), St.mk [((0 : Nat), AV.d (D.str s)), ((2 : Nat), AV.ptr (Nm.slot (2 : Nat)) (0 : Nat)), ((6 : Nat), AV.d (D.int IntKind.i64 z))] [(Nm.slot (2 : Nat), AObj.cells [AV.d (D.int IntKind.i64 (0 : Int)), AV.d (D.str []), AV.d (D.int IntKind.i64 (0 : Int)), AV.d (D.int IntKind.i64 (0 : Int))])])) (by kernel_rfl) ?_
  rfl
theorem nam_next (j : Nat) (hj : 10 < j) (s : List UInt8) (z : Int) (i : Nat) (hz : z = (i : Int)) (c : UInt8) (hx : s[i]? = some c) (hk : kindB c = 2 ∨ kindB c = 1) {lp : LP} (hlp : lp = lpOf Try.prog cfg (icall Try.prog cfg j) Try.f36.ntmps 36 j (([] : Hp).map (·.1))) (lf : Nat) (st : St) (hp : prune [] [0, 2, 6] st = some ⟨[(0, .d (.str s)), (2, .ptr (.slot 2) 0), (6, .d (.int .i64 z))], [(.slot 2, .cells [.d (.int .i64 0), .d (.str []), .d (.int .i64 0), .d (.int .i64 0)])]⟩) (r : Option (Fx × St))
    (hih : ∀ st', prune [] [0, 2, 6] st' = some ⟨[(0, .d (.str s)), (2, .ptr (.slot 2) 0), (6, .d (.int .i64 (IntKind.i64.wrap (z + 1))))], [(.slot 2, .cells [.d (.int .i64 0), .d (.str []), .d (.int .i64 0), .d (.int .i64 0)])]⟩ → loopK Try.prog cfg (icall Try.prog cfg j) lp Try.f36.ntmps 36 [] (bodyAt Try.f36 15) lf st' (exitP [] (some [0, 2, 6])) = r) : loopK Try.prog cfg (icall Try.prog cfg j) lp Try.f36.ntmps 36 [] (bodyAt Try.f36 15) (lf + 1) st (exitP [] (some [0, 2, 6])) = r := by
  have hi := (List.getElem?_eq_some_iff.1 hx).1
  have hend : z < (s.length : Int) := by omega
  have c1 := digitR c j (by omega)
  have c2 := letterR c j (by omega)
  refine loop_step hp ?_
  rcases hk with hk | hk
  · rw [hk] at c2
    conv => lhs; whnf
    refine iteK_dec_t hend ?_
    conv => lhs; whnf
    refine iteK_dec_t hend ?_
    conv => lhs; whnf
    refine iteK_dec_t hend ?_
    conv => lhs; whnf
    refine nextK_of (aop_ixS rfl rfl rfl (ixS_at' hz hx)) ?_
    conv => lhs; whnf
    refine iteK_dec_t hend ?_
    conv => lhs; whnf
    refine nextK_of c2 ?_
    conv => lhs; whnf
    refine iteK_dec_t hend ?_
    conv => lhs; whnf
    refine iteK_dec_t hend ?_
    conv => lhs; whnf
    refine iteK_dec_t hend ?_
    conv => lhs; whnf
    refine Eq.trans (hih _ rfl) ?_
    rfl
  · rw [hk] at c1 c2
    conv => lhs; whnf
    refine iteK_dec_t hend ?_
    conv => lhs; whnf
    refine iteK_dec_t hend ?_
    conv => lhs; whnf
    refine iteK_dec_t hend ?_
    conv => lhs; whnf
    refine nextK_of (aop_ixS rfl rfl rfl (ixS_at' hz hx)) ?_
    conv => lhs; whnf
    refine iteK_dec_t hend ?_
    conv => lhs; whnf
    refine nextK_of c2 ?_
    conv => lhs; whnf
    refine iteK_dec_t hend ?_
    conv => lhs; whnf
    refine nextK_of (aop_ixS rfl rfl rfl (ixS_at' hz hx)) ?_
    conv => lhs; whnf
    refine nextK_of c1 ?_
    conv => lhs; whnf
    refine iteK_dec_t hend ?_
    conv => lhs; whnf
    refine iteK_dec_t hend ?_
    conv => lhs; whnf
    refine Eq.trans (hih _ rfl) ?_
    rfl
theorem namL (s : List UInt8) (hs : s.length ≤ 4096) (j : Nat) (hj : 10 < j) {lp : LP} (hlp : lp = lpOf Try.prog cfg (icall Try.prog cfg j) Try.f36.ntmps 36 j (([] : Hp).map (·.1))) : ∀ (m i : Nat) (z : Int) (lf : Nat) (st : St), s.length - i ≤ m → i ≤ s.length → z = (i : Int) → m < lf → prune [] [0, 2, 6] st = some ⟨[(0, .d (.str s)), (2, .ptr (.slot 2) 0), (6, .d (.int .i64 z))], [(.slot 2, .cells [.d (.int .i64 0), .d (.str []), .d (.int .i64 0), .d (.int .i64 0)])]⟩ → loopK Try.prog cfg (icall Try.prog cfg j) lp Try.f36.ntmps 36 [] (bodyAt Try.f36 15) lf st (exitP [] (some [0, 2, 6])) = some (.exit 2, ⟨[(0, .d (.str s)), (2, .ptr (.slot 2) 0), (6, .d (.int .i64 (nameS i (s.drop i) : Nat)))], [(.slot 2, .cells [.d (.int .i64 0), .d (.str []), .d (.int .i64 0), .d (.int .i64 0)])]⟩) := by
  intro m
  induction m with
  | zero =>
    intro i z lf st hm hi hz hlf hp
    obtain ⟨lf, rfl⟩ : ∃ n, lf = n + 1 := ⟨lf - 1, by omega⟩
    rw [List.drop_eq_nil_of_le (by omega), nameS]
    rw [nam_end j hj s z i hz (by omega) hlp lf st hp, hz]
  | succ m ihm =>
    intro i z lf st hm hi hz hlf hp
    obtain ⟨lf, rfl⟩ : ∃ n, lf = n + 1 := ⟨lf - 1, by omega⟩
    by_cases he : s.length ≤ i
    · rw [List.drop_eq_nil_of_le he, nameS]
      rw [nam_end j hj s z i hz he hlp lf st hp, hz]
    · have hx : s[i]? = some s[i] := List.getElem?_eq_getElem (by omega)
      rw [List.drop_eq_getElem_cons (show i < s.length by omega), nameS]
      generalize s[i] = c at *
      by_cases hk : kindB c = 2 ∨ kindB c = 1
      · rw [if_pos hk]
        have ez : IntKind.i64.wrap (z + 1) = ((i + 1 : Nat) : Int) := by rw [Go.Rx.wrap_i64 (by omega) (by omega)]; omega
        exact nam_next j hj s z i hz c hx hk hlp lf st hp _ (fun st' hp' => ihm (i + 1) _ lf st' (by omega) (by omega) ez (by omega) hp')
      · rw [if_neg hk]
        rw [nam_not j hj s z i hz c hx hk hlp lf st hp, hz]
theorem o_sign (s : List UInt8) (hs : s.length ≤ 4096) (c : UInt8) (hx : s[0]? = some c) (k : Nat) (hk : s.length + 30 < k) (hq : kindB c = 3) : icall Try.prog cfg k 36 [.d (.str s)] [] = some (.ret (.tuple [.agg [.d (.int .i64 3), .d (.str (s.take 1)), .d (.int .i64 0), .d (.int .i64 0)], .d (.int .i64 1), .d (.int .i64 0), .d (.int .i64 0)]), []) := by
  obtain ⟨k, rfl⟩ : ∃ j, k = j + 1 := ⟨k - 1, by omega⟩
  have hl := (List.getElem?_eq_some_iff.1 hx).1
  have c1 := digitR c k (by omega)
  have c2 := letterR c k (by omega)
  have c3 := signR c k (by omega)
  rw [hq] at c3
  rw [icall_body rfl Try.func36]
  obtain ⟨lp, hlp⟩ : ∃ lp, lp = lpOf Try.prog cfg (icall Try.prog cfg k) Try.f36.ntmps 36 k (([] : Hp).map (·.1)) := ⟨_, rfl⟩
  rw [← hlp]
  conv => lhs; whnf
  refine nextK_of (aop_ixS rfl rfl rfl (ixS_at' (n := 0) rfl hx)) ?_
  conv => lhs; whnf
  refine nextK_of c3 ?_
  conv => lhs; whnf
  refine nextK_of (aop_part (a := 0) (b := 1) rfl rfl rfl rfl (bnds_to rfl (by omega))) ?_
  conv => lhs; whnf
  refine Eq.trans (b := some (Res.ret (AV.tuple [AV.agg [AV.d (D.int IntKind.i64 (3 : Int)), AV.d (D.str (List.take (1 : Nat) s)), AV.d (D.int IntKind.i64 (0 : Int)), AV.d (D.int IntKind.i64 (0 : Int))], AV.d (D.int IntKind.i64 (1 : Int)), AV.d (D.int IntKind.i64 (0 : Int)), AV.d (D.int IntKind.i64 (0 : Int))]), [])) (by kernel_rfl) ?_
  rfl
theorem o_bad (s : List UInt8) (hs : s.length ≤ 4096) (c : UInt8) (hx : s[0]? = some c) (k : Nat) (hk : s.length + 30 < k) (hq : kindB c = 0 ∨ kindB c = -1) : icall Try.prog cfg k 36 [.d (.str s)] [] = some (.ret (.tuple [.agg [.d (.int .i64 0), .d (.str []), .d (.int .i64 0), .d (.int .i64 0)], .d (.int .i64 0), .d (.int .i64 3), .d (.int .i64 0)]), []) := by
  obtain ⟨k, rfl⟩ : ∃ j, k = j + 1 := ⟨k - 1, by omega⟩
  have hl := (List.getElem?_eq_some_iff.1 hx).1
  have c1 := digitR c k (by omega)
  have c2 := letterR c k (by omega)
  have c3 := signR c k (by omega)
  rw [show (kindB c == 3) = false by simp; omega] at c3
  rw [show (kindB c == 1) = false by simp; omega] at c1
  rw [show (kindB c == 2) = false by simp; omega] at c2
  rw [icall_body rfl Try.func36]
  obtain ⟨lp, hlp⟩ : ∃ lp, lp = lpOf Try.prog cfg (icall Try.prog cfg k) Try.f36.ntmps 36 k (([] : Hp).map (·.1)) := ⟨_, rfl⟩
  rw [← hlp]
  conv => lhs; whnf
  refine nextK_of (aop_ixS rfl rfl rfl (ixS_at' (n := 0) rfl hx)) ?_
  conv => lhs; whnf
  refine nextK_of c3 ?_
  conv => lhs; whnf
  refine nextK_of (aop_ixS rfl rfl rfl (ixS_at' (n := 0) rfl hx)) ?_
  conv => lhs; whnf
  refine nextK_of c1 ?_
  conv => lhs; whnf
  refine nextK_of (aop_ixS rfl rfl rfl (ixS_at' (n := 0) rfl hx)) ?_
  conv => lhs; whnf
  refine nextK_of c2 ?_
  conv => lhs; whnf
  refine Eq.trans (b := some (Res.ret (AV.tuple [AV.agg [AV.d (D.int IntKind.i64 (0 : Int)), AV.d (D.str []), AV.d (D.int IntKind.i64 (0 : Int)), AV.d (D.int IntKind.i64 (0 : Int))], AV.d (D.int IntKind.i64 (0 : Int)), AV.d (D.int IntKind.i64 (3 : Int)), AV.d (D.int IntKind.i64 (0 : Int))]), [])) (by kernel_rfl) ?_
  rfl
theorem o_num (s : List UInt8) (hs : s.length ≤ 4096) (c : UInt8) (hx : s[0]? = some c) (k : Nat) (hk : s.length + 30 < k) (hq : kindB c = 1) : icall Try.prog cfg k 36 [.d (.str s)] [] = if (numE 0 (s.take (digE 1 (s.drop 1)))).1 = false then some (.ret (.tuple [.agg [.d (.int .i64 0), .d (.str []), .d (.int .i64 0), .d (.int .i64 0)], .d (.int .i64 0), .d (.int .i64 13), .d (.int .i64 0)]), []) else if isName s (digE 1 (s.drop 1)) = true then some (.ret (.tuple [.agg [.d (.int .i64 0), .d (.str []), .d (.int .i64 0), .d (.int .i64 0)], .d (.int .i64 0), .d (.int .i64 3), .d (.int .i64 ((digE 1 (s.drop 1) : Nat) : Int))]), []) else some (.ret (.tuple [.agg [.d (.int .i64 1), .d (.str []), .d (.int .i64 ((numE 0 (s.take (digE 1 (s.drop 1)))).2 : Int)), .d (.int .i64 0)], .d (.int .i64 ((digE 1 (s.drop 1) : Nat) : Int)), .d (.int .i64 0), .d (.int .i64 0)]), []) := by
  obtain ⟨k, rfl⟩ : ∃ j, k = j + 1 := ⟨k - 1, by omega⟩
  have hl := (List.getElem?_eq_some_iff.1 hx).1
  have c1 := digitR c k (by omega)
  have c2 := letterR c k (by omega)
  have c3 := signR c k (by omega)
  have hb := digE_b (s.drop 1) 1
  have hdl : (s.drop 1).length = s.length - 1 := List.length_drop
  have hall : ∀ d ∈ s.take (digE 1 (s.drop 1)), kindB d = 1 := by
    intro d hd
    cases s with
    | nil => simp at hd
    | cons c0 r =>
      simp only [List.getElem?_cons_zero, Option.some.injEq] at hx
      subst hx
      simp only [List.drop_succ_cons, List.drop_zero] at hd hb
      rw [show digE 1 r = (digE 1 r - 1) + 1 by omega, List.take_succ_cons] at hd
      rcases List.mem_cons.1 hd with rfl | hd
      · exact hq
      · exact digE_all r 1 d hd
  have htl : (s.take (digE 1 (s.drop 1))).length ≤ s.length := by rw [List.length_take]; omega
  have cn := number51 (s.take (digE 1 (s.drop 1))) (by omega) hall k (by omega)
  have hL := fun (lp : LP) (hlp : lp = lpOf Try.prog cfg (icall Try.prog cfg k) Try.f36.ntmps 36 k (([] : Hp).map (·.1))) st hp => digL s hs k (by omega) hlp s.length 1 1 k st (by omega) (by omega) rfl (by omega) hp
  rw [show (kindB c == 3) = false by rw [hq]; rfl] at c3
  rw [hq] at c1
  generalize digE 1 (s.drop 1) = b at *
  cases hn : (numE 0 (s.take b)).1
  · rw [hn] at cn
    simp only [if_true, Bool.false_eq_true, if_false] at cn ⊢
    generalize numE 0 (s.take b) = v at *
    generalize hts : s.take b = ts at *
    have aop_s := fun {P : Program} {dst : Nat} {ρ : Operand → AV} {H : Hp} {t : TypeId} {x : Operand} {hi : Option Operand} (hx : ρ x = .d (.str s)) (ht : P.underlying t = some .string) (hh : intV (hi.map ρ) = some (some (b : Int))) => by
      have := aop_part (dst := dst) (lo := none) (H := H) (a := 0) (b := b) hx ht rfl hh (bnds_to rfl (by omega)); rw [List.drop_zero, hts] at this; exact this
    rw [icall_body rfl Try.func36]
    obtain ⟨lp, hlp⟩ : ∃ lp, lp = lpOf Try.prog cfg (icall Try.prog cfg k) Try.f36.ntmps 36 k (([] : Hp).map (·.1)) := ⟨_, rfl⟩
    rw [← hlp]
    conv => lhs; whnf
    refine nextK_of (aop_ixS rfl rfl rfl (ixS_at' (n := 0) rfl hx)) ?_
    conv => lhs; whnf
    refine nextK_of c3 ?_
    conv => lhs; whnf
    refine nextK_of (aop_ixS rfl rfl rfl (ixS_at' (n := 0) rfl hx)) ?_
    conv => lhs; whnf
    refine nextK_of c1 ?_
    conv => lhs; whnf
    refine nextK_of (loop_at hlp (hL lp hlp _ rfl)) ?_
    conv => lhs; whnf
    refine nextK_of (aop_s rfl rfl rfl) ?_
    conv => lhs; whnf
    refine nextK_of cn ?_
    conv => lhs; whnf
    refine Eq.trans (b := some (Res.ret (AV.tuple [AV.agg [AV.d (D.int IntKind.i64 (0 : Int)), AV.d (D.str []), AV.d (D.int IntKind.i64 (0 : Int)), AV.d (D.int IntKind.i64 (0 : Int))], AV.d (D.int IntKind.i64 (0 : Int)), AV.d (D.int IntKind.i64 (13 : Int)), AV.d (D.int IntKind.i64 (0 : Int))]), [])) (by kernel_rfl) ?_
    rfl
  · rw [hn] at cn
    simp only [if_true, Bool.true_eq_false, if_false] at cn ⊢
    generalize (numE 0 (s.take b)).2 = v at *
    generalize hts : s.take b = ts at *
    have aop_s := fun {P : Program} {dst : Nat} {ρ : Operand → AV} {H : Hp} {t : TypeId} {x : Operand} {hi : Option Operand} (hx : ρ x = .d (.str s)) (ht : P.underlying t = some .string) (hh : intV (hi.map ρ) = some (some (b : Int))) => by
      have := aop_part (dst := dst) (lo := none) (H := H) (a := 0) (b := b) hx ht rfl hh (bnds_to rfl (by omega)); rw [List.drop_zero, hts] at this; exact this
    cases hxb : s[b]? with
    | none =>
      have hend : ¬ (b : Int) < (s.length : Int) := by have := List.getElem?_eq_none_iff.1 hxb; omega
      have hnm : isName s b = false := by unfold isName; rw [hxb]
      rw [hnm]; simp only [Bool.false_eq_true, if_false]
      rw [icall_body rfl Try.func36]
      obtain ⟨lp, hlp⟩ : ∃ lp, lp = lpOf Try.prog cfg (icall Try.prog cfg k) Try.f36.ntmps 36 k (([] : Hp).map (·.1)) := ⟨_, rfl⟩
      rw [← hlp]
      conv => lhs; whnf
      refine nextK_of (aop_ixS rfl rfl rfl (ixS_at' (n := 0) rfl hx)) ?_
      conv => lhs; whnf
      refine nextK_of c3 ?_
      conv => lhs; whnf
      refine nextK_of (aop_ixS rfl rfl rfl (ixS_at' (n := 0) rfl hx)) ?_
      conv => lhs; whnf
      refine nextK_of c1 ?_
      conv => lhs; whnf
      refine nextK_of (loop_at hlp (hL lp hlp _ rfl)) ?_
      conv => lhs; whnf
      refine nextK_of (aop_s rfl rfl rfl) ?_
      conv => lhs; whnf
      refine nextK_of cn ?_
      conv => lhs; whnf
      refine iteK_dec_f hend ?_
      conv => lhs; whnf
      refine iteK_dec_f hend ?_
      conv => lhs; whnf
      refine iteK_dec_f hend ?_
      conv => lhs; whnf
      refine iteK_dec_f hend ?_
      conv => lhs; whnf
      refine iteK_dec_f hend ?_
      conv => lhs; whnf
      refine Eq.trans (b := some (Res.ret (AV.tuple [AV.agg [AV.d (D.int IntKind.i64 (1 : Int)), AV.d (D.str []), AV.d (D.int IntKind.i64 ↑v), AV.d (D.int IntKind.i64 (0 : Int))], AV.d (D.int IntKind.i64 ↑b), AV.d (D.int IntKind.i64 (0 : Int)), AV.d (D.int IntKind.i64 (0 : Int))]), [])) (by kernel_rfl) ?_
      rfl
    | some d =>
      have hend : (b : Int) < (s.length : Int) := by have := (List.getElem?_eq_some_iff.1 hxb).1; omega
      have cl := letterR d k (by omega)
      have hnm : isName s b = (kindB d == 2) := by unfold isName; rw [hxb]
      rw [hnm]
      cases hd2 : (kindB d == 2)
      · rw [hd2] at cl
        simp only [Bool.false_eq_true, if_false]
        rw [icall_body rfl Try.func36]
        obtain ⟨lp, hlp⟩ : ∃ lp, lp = lpOf Try.prog cfg (icall Try.prog cfg k) Try.f36.ntmps 36 k (([] : Hp).map (·.1)) := ⟨_, rfl⟩
        rw [← hlp]
        conv => lhs; whnf
        refine nextK_of (aop_ixS rfl rfl rfl (ixS_at' (n := 0) rfl hx)) ?_
        conv => lhs; whnf
        refine nextK_of c3 ?_
        conv => lhs; whnf
        refine nextK_of (aop_ixS rfl rfl rfl (ixS_at' (n := 0) rfl hx)) ?_
        conv => lhs; whnf
        refine nextK_of c1 ?_
        conv => lhs; whnf
        refine nextK_of (loop_at hlp (hL lp hlp _ rfl)) ?_
        conv => lhs; whnf
        refine nextK_of (aop_s rfl rfl rfl) ?_
        conv => lhs; whnf
        refine nextK_of cn ?_
        conv => lhs; whnf
        refine iteK_dec_t hend ?_
        conv => lhs; whnf
        refine iteK_dec_t hend ?_
        conv => lhs; whnf
        refine iteK_dec_t hend ?_
        conv => lhs; whnf
        refine nextK_of (aop_ixS rfl rfl rfl (ixS_at' (n := b) rfl hxb)) ?_
        conv => lhs; whnf
        refine iteK_dec_t hend ?_
        conv => lhs; whnf
        refine nextK_of cl ?_
        conv => lhs; whnf
        refine iteK_dec_t hend ?_
        conv => lhs; whnf
        refine Eq.trans (b := some (Res.ret (AV.tuple [AV.agg [AV.d (D.int IntKind.i64 (1 : Int)), AV.d (D.str []), AV.d (D.int IntKind.i64 ↑v), AV.d (D.int IntKind.i64 (0 : Int))], AV.d (D.int IntKind.i64 ↑b), AV.d (D.int IntKind.i64 (0 : Int)), AV.d (D.int IntKind.i64 (0 : Int))]), [])) (by kernel_rfl) ?_
        rfl
      · rw [hd2] at cl
        simp only [if_true]
        rw [icall_body rfl Try.func36]
        obtain ⟨lp, hlp⟩ : ∃ lp, lp = lpOf Try.prog cfg (icall Try.prog cfg k) Try.f36.ntmps 36 k (([] : Hp).map (·.1)) := ⟨_, rfl⟩
        rw [← hlp]
        conv => lhs; whnf
        refine nextK_of (aop_ixS rfl rfl rfl (ixS_at' (n := 0) rfl hx)) ?_
        conv => lhs; whnf
        refine nextK_of c3 ?_
        conv => lhs; whnf
        refine nextK_of (aop_ixS rfl rfl rfl (ixS_at' (n := 0) rfl hx)) ?_
        conv => lhs; whnf
        refine nextK_of c1 ?_
        conv => lhs; whnf
        refine nextK_of (loop_at hlp (hL lp hlp _ rfl)) ?_
        conv => lhs; whnf
        refine nextK_of (aop_s rfl rfl rfl) ?_
        conv => lhs; whnf
        refine nextK_of cn ?_
        conv => lhs; whnf
        refine iteK_dec_t hend ?_
        conv => lhs; whnf
        refine iteK_dec_t hend ?_
        conv => lhs; whnf
        refine iteK_dec_t hend ?_
        conv => lhs; whnf
        refine nextK_of (aop_ixS rfl rfl rfl (ixS_at' (n := b) rfl hxb)) ?_
        conv => lhs; whnf
        refine iteK_dec_t hend ?_
        conv => lhs; whnf
        refine nextK_of cl ?_
        conv => lhs; whnf
        refine iteK_dec_t hend ?_
        conv => lhs; whnf
        refine Eq.trans (b := some (Res.ret (AV.tuple [AV.agg [AV.d (D.int IntKind.i64 (0 : Int)), AV.d (D.str []), AV.d (D.int IntKind.i64 (0 : Int)), AV.d (D.int IntKind.i64 (0 : Int))], AV.d (D.int IntKind.i64 (0 : Int)), AV.d (D.int IntKind.i64 (3 : Int)), AV.d (D.int IntKind.i64 ↑b)]), [])) (by kernel_rfl) ?_
        rfl
theorem o_name (s : List UInt8) (hs : s.length ≤ 4096) (c : UInt8) (hx : s[0]? = some c) (k : Nat) (hk : s.length + 30 < k) (hq : kindB c = 2) : icall Try.prog cfg k 36 [.d (.str s)] [] = if nameS 1 (s.drop 1) > 32 then some (.ret (.tuple [.agg [.d (.int .i64 0), .d (.str []), .d (.int .i64 0), .d (.int .i64 0)], .d (.int .i64 0), .d (.int .i64 3), .d (.int .i64 0)]), []) else some (.ret (.tuple [.agg [.d (.int .i64 2), .d (.str (s.take (nameS 1 (s.drop 1)))), .d (.int .i64 0), .d (.int .i64 0)], .d (.int .i64 ((nameS 1 (s.drop 1) : Nat) : Int)), .d (.int .i64 0), .d (.int .i64 0)]), []) := by
  obtain ⟨k, rfl⟩ : ∃ j, k = j + 1 := ⟨k - 1, by omega⟩
  have hl := (List.getElem?_eq_some_iff.1 hx).1
  have c1 := digitR c k (by omega)
  have c2 := letterR c k (by omega)
  have c3 := signR c k (by omega)
  have hb := nameS_b (s.drop 1) 1
  have hdl : (s.drop 1).length = s.length - 1 := List.length_drop
  have hL := fun (lp : LP) (hlp : lp = lpOf Try.prog cfg (icall Try.prog cfg k) Try.f36.ntmps 36 k (([] : Hp).map (·.1))) st hp => namL s hs k (by omega) hlp s.length 1 1 k st (by omega) (by omega) rfl (by omega) hp
  rw [show (kindB c == 3) = false by rw [hq]; rfl] at c3
  rw [show (kindB c == 1) = false by rw [hq]; rfl] at c1
  rw [hq] at c2
  generalize nameS 1 (s.drop 1) = b at *
  by_cases h32 : b > 32
  · rw [if_pos h32]
    have h32' : (b : Int) > 32 := by omega
    rw [icall_body rfl Try.func36]
    obtain ⟨lp, hlp⟩ : ∃ lp, lp = lpOf Try.prog cfg (icall Try.prog cfg k) Try.f36.ntmps 36 k (([] : Hp).map (·.1)) := ⟨_, rfl⟩
    rw [← hlp]
    conv => lhs; whnf
    refine nextK_of (aop_ixS rfl rfl rfl (ixS_at' (n := 0) rfl hx)) ?_
    conv => lhs; whnf
    refine nextK_of c3 ?_
    conv => lhs; whnf
    refine nextK_of (aop_ixS rfl rfl rfl (ixS_at' (n := 0) rfl hx)) ?_
    conv => lhs; whnf
    refine nextK_of c1 ?_
    conv => lhs; whnf
    refine nextK_of (aop_ixS rfl rfl rfl (ixS_at' (n := 0) rfl hx)) ?_
    conv => lhs; whnf
    refine nextK_of c2 ?_
    conv => lhs; whnf
    refine nextK_of (loop_at hlp (hL lp hlp _ rfl)) ?_
    conv => lhs; whnf
    refine iteK_dec_t h32' ?_
    conv => lhs; whnf
    refine Eq.trans (b := some (Res.ret (AV.tuple [AV.agg [AV.d (D.int IntKind.i64 (0 : Int)), AV.d (D.str []), AV.d (D.int IntKind.i64 (0 : Int)), AV.d (D.int IntKind.i64 (0 : Int))], AV.d (D.int IntKind.i64 (0 : Int)), AV.d (D.int IntKind.i64 (3 : Int)), AV.d (D.int IntKind.i64 (0 : Int))]), [])) (by kernel_rfl) ?_
    rfl
  · rw [if_neg h32]
    have h32' : ¬ (b : Int) > 32 := by omega
    rw [icall_body rfl Try.func36]
    obtain ⟨lp, hlp⟩ : ∃ lp, lp = lpOf Try.prog cfg (icall Try.prog cfg k) Try.f36.ntmps 36 k (([] : Hp).map (·.1)) := ⟨_, rfl⟩
    rw [← hlp]
    conv => lhs; whnf
    refine nextK_of (aop_ixS rfl rfl rfl (ixS_at' (n := 0) rfl hx)) ?_
    conv => lhs; whnf
    refine nextK_of c3 ?_
    conv => lhs; whnf
    refine nextK_of (aop_ixS rfl rfl rfl (ixS_at' (n := 0) rfl hx)) ?_
    conv => lhs; whnf
    refine nextK_of c1 ?_
    conv => lhs; whnf
    refine nextK_of (aop_ixS rfl rfl rfl (ixS_at' (n := 0) rfl hx)) ?_
    conv => lhs; whnf
    refine nextK_of c2 ?_
    conv => lhs; whnf
    refine nextK_of (loop_at hlp (hL lp hlp _ rfl)) ?_
    conv => lhs; whnf
    refine iteK_dec_f h32' ?_
    conv => lhs; whnf
    refine nextK_of (aop_part (a := 0) (b := b) rfl rfl rfl rfl (bnds_to rfl (by omega))) ?_
    conv => lhs; whnf
    refine Eq.trans (b := some (Res.ret (AV.tuple [AV.agg [AV.d (D.int IntKind.i64 (2 : Int)), AV.d (D.str (List.take b s)), AV.d (D.int IntKind.i64 (0 : Int)), AV.d (D.int IntKind.i64 (0 : Int))], AV.d (D.int IntKind.i64 ↑b), AV.d (D.int IntKind.i64 (0 : Int)), AV.d (D.int IntKind.i64 (0 : Int))]), [])) (by kernel_rfl) ?_
    rfl
theorem one36 (s : List UInt8) (hs : s.length ≤ 4096) (c : UInt8) (hx : s[0]? = some c) (k : Nat) (hk : s.length + 30 < k) : icall Try.prog cfg k 36 [.d (.str s)] [] = some (.ret (.tuple [.agg [.d (.int .i64 (oneW s c).1.k), .d (.str (oneW s c).1.t), .d (.int .i64 (oneW s c).1.n), .d (.int .i64 (oneW s c).1.at')], .d (.int .i64 (oneW s c).2.1), .d (.int .i64 (oneW s c).2.2.1), .d (.int .i64 (oneW s c).2.2.2)]), []) := by
  unfold oneW
  rcases kind_of c with hq | hq | hq | hq | hq
  · rw [o_bad s hs c hx k hk (.inl hq)]; simp [hq]
  · rw [o_num s hs c hx k hk hq]
    simp only [hq, Int.reduceEq, if_true, if_false]
    split
    · rfl
    · split <;> rfl
  · rw [o_name s hs c hx k hk hq]
    simp only [hq, Int.reduceEq, if_true, if_false]
    split <;> rfl
  · rw [o_sign s hs c hx k hk hq]; simp only [hq, Int.reduceEq, if_true, if_false]; rfl
  · rw [o_bad s hs c hx k hk (.inr hq)]; simp [hq]
end Go.Rx07
