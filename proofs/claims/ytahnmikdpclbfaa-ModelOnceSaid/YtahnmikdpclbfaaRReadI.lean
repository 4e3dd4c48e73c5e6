/- A part of the proof of the law: what functions of the program come to, walked by Rx, or plain facts on it. -/
import Derived.Test.YtahnmikdpclbfaaRReadV
open Go Go.Rx Go.Proofs Go.Rx11 Go.RxTree
set_option maxRecDepth 1000000
set_option maxHeartbeats 4000000
set_option linter.unusedVariables false
set_option linter.unusedSimpArgs false
namespace Go.Rx11
theorem zag_x {n : Nat} (h : n < 18446744073709551616) : bits .xor .i64 (IntKind.i64.wrap ((n : Int).fdiv (2 ^ (min (1 : Int).toNat IntKind.u64.bits)))) (IntKind.i64.wrap (0 - IntKind.i64.wrap (bits .and .u64 (n : Int) 1))) = zag n := by
  have e1 : (2 : Int) ^ (min (1 : Int).toNat IntKind.u64.bits) = 2 := by decide
  rw [e1, and1 (by omega) (by omega), Int.fdiv_eq_ediv_of_nonneg _ (by omega), Go.Rx.wrap_i64 (n := (n : Int) / 2) (by omega) (by omega), Go.Rx.wrap_i64 (n := (n : Int) % 2) (by omega) (by omega), Go.Rx.wrap_i64 (by omega) (by omega)]
  unfold zag
  by_cases h2 : n % 2 = 0
  · rw [if_pos h2, show 0 - (n : Int) % 2 = 0 by omega, xor_0 (by omega) (by omega)]; omega
  · rw [if_neg h2, show 0 - (n : Int) % 2 = -1 by omega, xor_m1 (by omega) (by omega)]; omega
theorem readI72 (b : List UInt8) (hb : b.length ≤ maxLen) (k : Nat) (hk : 13 < k) : icall Try.prog cfg k 72 [.d (.list (bL b))] [] = some (.ret (.tuple [.d (.int .i64 (rdI b).1), .d (.list (bL (rest b (rdI b).2.1 (rdI b).2.2))), .d (.int .i64 (rdI b).2.2)]), []) := by
  obtain ⟨k, rfl⟩ : ∃ j, k = j + 1 := ⟨k - 1, by omega⟩
  have hc := readU80 b hb k (by omega)
  have hw := (rdU_b b).2.1
  unfold rdI
  generalize rdU b = r at *
  obtain ⟨n, kk, e⟩ := r
  have hz := zag_x hw
  rw [icall_body rfl Try.func72]
  obtain ⟨lp, hlp⟩ : ∃ lp, lp = lpOf Try.prog cfg (icall Try.prog cfg k) Try.f72.ntmps 72 k (([] : Hp).map (·.1)) := ⟨_, rfl⟩
  rw [← hlp]
  conv => lhs; whnf
  refine nextK_of hc ?_
  conv => lhs; whnf
  refine Eq.trans (b := some (Res.ret (AV.tuple [AV.d (D.int IntKind.i64 (bits BinOp.xor IntKind.i64 (IntKind.wrap IntKind.i64 (Int.fdiv (↑n) ((2 : Int) ^ min (Int.toNat (1 : Int)) (IntKind.bits IntKind.u64)))) (IntKind.wrap IntKind.i64 ((0 : Int) - IntKind.wrap IntKind.i64 (bits BinOp.and IntKind.u64 ↑n (1 : Int)))))), AV.d (D.list (bL (rest b kk e))), AV.d (D.int IntKind.i64 e)]), [])) (by kernel_rfl) ?_
  exact congrArg (fun q => some (Res.ret (.tuple [.d (.int .i64 q), .d (.list (bL (rest b kk e))), .d (.int .i64 e)]), ([] : Hp))) hz
theorem zag_e {n : Nat} (h : n < 18446744073709551616) (h2 : (n : Int).tmod 2 = 0) : IntKind.i64.wrap (IntKind.u64.wrap ((n : Int).tdiv 2)) = zag n := by
  rw [Int.tmod_eq_emod_of_nonneg (by omega)] at h2
  rw [Int.tdiv_eq_ediv_of_nonneg (by omega), Go.Rx.wrap_u64 (by omega) (by omega), Go.Rx.wrap_i64 (by omega) (by omega)]
  unfold zag; rw [if_pos (by omega)]; omega
theorem zag_o {n : Nat} (h : n < 18446744073709551616) (h2 : (n : Int).tmod 2 ≠ 0) : IntKind.i64.wrap (IntKind.i64.wrap (0 - IntKind.i64.wrap (IntKind.u64.wrap ((n : Int).tdiv 2))) - 1) = zag n := by
  rw [Int.tmod_eq_emod_of_nonneg (by omega)] at h2
  rw [Int.tdiv_eq_ediv_of_nonneg (by omega), Go.Rx.wrap_u64 (by omega) (by omega), Go.Rx.wrap_i64 (n := (n : Int) / 2) (by omega) (by omega), Go.Rx.wrap_i64 (n := 0 - (n : Int) / 2) (by omega) (by omega), Go.Rx.wrap_i64 (by omega) (by omega)]
  unfold zag; rw [if_neg (by omega)]; omega
theorem readI75 (b : List UInt8) (hb : b.length ≤ maxLen) (k : Nat) (hk : 14 < k) : icall Try.prog cfg k 75 [.d (.list (bL b))] [] = some (.ret (.tuple [.d (.int .i64 (rdI b).1), .d (.int .i64 (rdI b).2.1), .d (.int .i64 (rdI b).2.2)]), []) := by
  obtain ⟨k, rfl⟩ : ∃ j, k = j + 1 := ⟨k - 1, by omega⟩
  have hc := readU81 b hb k (by omega)
  have hw := (rdU_b b).2.1
  have he := (rdU_b b).2.2
  unfold rdI
  generalize rdU b = r at *
  obtain ⟨n, kk, e⟩ := r
  dsimp only at hc hw he ⊢
  by_cases h0 : e = 0
  · subst h0
    rw [icall_body rfl Try.func75]
    obtain ⟨lp, hlp⟩ : ∃ lp, lp = lpOf Try.prog cfg (icall Try.prog cfg k) Try.f75.ntmps 75 k (([] : Hp).map (·.1)) := ⟨_, rfl⟩
    rw [← hlp]
    conv => lhs; whnf
    refine nextK_of hc ?_
    conv => lhs; whnf
    refine iteK_beq (fun h1 => ?_) (fun h1 => ?_)
    · rw [beq_t h1]
      conv => lhs; whnf
      refine Eq.trans (b := some (Res.ret (AV.tuple [AV.d (D.int IntKind.i64 (IntKind.wrap IntKind.i64 (IntKind.wrap IntKind.u64 (Int.tdiv ↑n (2 : Int))))), AV.d (D.int IntKind.i64 ↑kk), AV.d (D.int IntKind.i64 (0 : Int))]), [])) (by kernel_rfl) ?_
      (exact congrArg (fun q => some (Res.ret (.tuple [.d (.int .i64 q), .d (.int .i64 kk), .d (.int .i64 0)]), ([] : Hp))) (zag_e hw (by assumption)))
    · rw [beq_f h1]
      conv => lhs; whnf
      refine Eq.trans (b := some (Res.ret (AV.tuple [AV.d (D.int IntKind.i64 (IntKind.wrap IntKind.i64 (IntKind.wrap IntKind.i64 ((0 : Int) - IntKind.wrap IntKind.i64 (IntKind.wrap IntKind.u64 (Int.tdiv ↑n (2 : Int)))) - (1 : Int)))), AV.d (D.int IntKind.i64 ↑kk), AV.d (D.int IntKind.i64 (0 : Int))]), [])) (by kernel_rfl) ?_
      (exact congrArg (fun q => some (Res.ret (.tuple [.d (.int .i64 q), .d (.int .i64 kk), .d (.int .i64 0)]), ([] : Hp))) (zag_o hw (by assumption)))
  · obtain ⟨rfl, rfl⟩ := he h0
    rw [icall_body rfl Try.func75]
    obtain ⟨lp, hlp⟩ : ∃ lp, lp = lpOf Try.prog cfg (icall Try.prog cfg k) Try.f75.ntmps 75 k (([] : Hp).map (·.1)) := ⟨_, rfl⟩
    rw [← hlp]
    conv => lhs; whnf
    refine nextK_of hc ?_
    conv => lhs; whnf
    refine iteK_bne_t h0 ?_
    conv => lhs; whnf
    refine Eq.trans (b := some (Res.ret (AV.tuple [AV.d (D.int IntKind.i64 (0 : Int)), AV.d (D.int IntKind.i64 (0 : Int)), AV.d (D.int IntKind.i64 e)]), [])) (by kernel_rfl) ?_
    rfl
/-- What reading a text comes to, told by the number ahead of it. -/
theorem rdB_1 {b : List UInt8} {n kk : Nat} {e : Int} (h : rdU b = (n, kk, e)) (he : e ≠ 0) : rdB b = ([], 0, e) := by
  unfold rdB; rw [h]; rw [if_pos he]
theorem rdB_2 {b : List UInt8} {n kk : Nat} (h : rdU b = (n, kk, 0)) (he : b.length - kk < n) : rdB b = ([], 0, 5) := by
  unfold rdB; rw [h, if_neg (by simp), if_pos he]
theorem rdB_3 {b : List UInt8} {n kk : Nat} (h : rdU b = (n, kk, 0)) (he : ¬ b.length - kk < n) : rdB b = ((b.drop kk).take n, kk + n, 0) := by
  unfold rdB; rw [h, if_neg (by simp), if_neg he]
theorem readB73 (b : List UInt8) (hb : b.length ≤ maxLen) (k : Nat) (hk : 14 < k) : icall Try.prog cfg k 73 [.d (.list (bL b))] [] = some (.ret (.tuple [.d (.list (bL (rdB b).1)), .d (.list (bL (rest b (rdB b).2.1 (rdB b).2.2))), .d (.int .i64 (rdB b).2.2)]), []) := by
  obtain ⟨k, rfl⟩ : ∃ j, k = j + 1 := ⟨k - 1, by omega⟩
  have hc := readU80 b hb k (by omega)
  obtain ⟨hw, hw2, he⟩ := rdU_b b
  generalize hr : rdU b = r at *
  obtain ⟨n, kk, e⟩ := r
  dsimp only at hc hw hw2 he ⊢
  have hmx : (maxLen : Int) ≤ 9223372036854775807 := by decide
  by_cases h0 : e = 0
  · subst h0
    obtain ⟨u1, u2, u3⟩ := hw rfl
    rw [rest_0] at hc
    have hlen : (bL (b.drop kk)).length = b.length - kk := by rw [bL_len, List.length_drop]
    have hld : (b.drop kk).length = b.length - kk := List.length_drop ..
    have hwl : IntKind.u64.wrap ((bL (b.drop kk)).length : Int) = ((b.length - kk : Nat) : Int) := by rw [hlen]; exact Go.Rx.wrap_u64 (by omega) (by omega)
    by_cases h1 : b.length - kk < n
    · rw [rdB_2 hr h1]
      rw [icall_body rfl Try.func73]
      obtain ⟨lp, hlp⟩ : ∃ lp, lp = lpOf Try.prog cfg (icall Try.prog cfg k) Try.f73.ntmps 73 k (([] : Hp).map (·.1)) := ⟨_, rfl⟩
      rw [← hlp]
      conv => lhs; whnf
      refine nextK_of hc ?_
      conv => lhs; whnf
      refine iteK_dec (fun h1 => ?_) (fun h1 => ?_)
      · rw [dec_t h1]
        conv => lhs; whnf
        refine Eq.trans (b := some (Res.ret (AV.tuple [AV.d (D.list []), AV.d (D.list []), AV.d (D.int IntKind.i64 (5 : Int))]), [])) (by kernel_rfl) ?_
        rfl
      · rw [dec_f h1]
        (exfalso; omega)
    · rw [rdB_3 hr h1]
      have e1 : rest b (kk + n) 0 = (b.drop kk).drop n := by rw [rest_0, List.drop_drop]
      rw [e1]
      rw [icall_body rfl Try.func73]
      obtain ⟨lp, hlp⟩ : ∃ lp, lp = lpOf Try.prog cfg (icall Try.prog cfg k) Try.f73.ntmps 73 k (([] : Hp).map (·.1)) := ⟨_, rfl⟩
      rw [← hlp]
      conv => lhs; whnf
      refine nextK_of hc ?_
      conv => lhs; whnf
      refine iteK_dec (fun h1 => ?_) (fun h1 => ?_)
      · rw [dec_t h1]
        (exfalso; omega)
      · rw [dec_f h1]
        conv => lhs; whnf
        refine iteO_t (by kernel_rfl) ?_
        conv => lhs; whnf
        refine nextK_of (aop_sliceB (a := 0) (b := n) rfl rfl rfl rfl rfl rfl (bnds_cap rfl rfl (by omega))) ?_
        conv => lhs; whnf
        refine nextK_of (aop_sliceB (a := n) (b := b.length - kk) rfl rfl rfl rfl rfl rfl (by rw [hld]; exact bnds_from rfl (by omega))) ?_
        conv => lhs; whnf
        refine iteO_t (by kernel_rfl) ?_
        conv => lhs; whnf
        refine Eq.trans (b := some (Res.ret (AV.tuple [AV.d (D.list (bL (List.take n (List.drop kk b)))), AV.d (D.list (bL (List.drop n (List.take (List.length b - kk) (List.drop kk b))))), AV.d (D.int IntKind.i64 (0 : Int))]), [])) (by kernel_rfl) ?_
        (rw [List.take_of_length_le (i := b.length - kk) (by omega)])
  · rw [rdB_1 hr h0]
    dsimp only
    rw [rest_e _ _ h0]
    rw [rest_e _ _ h0] at hc
    rw [icall_body rfl Try.func73]
    obtain ⟨lp, hlp⟩ : ∃ lp, lp = lpOf Try.prog cfg (icall Try.prog cfg k) Try.f73.ntmps 73 k (([] : Hp).map (·.1)) := ⟨_, rfl⟩
    rw [← hlp]
    conv => lhs; whnf
    refine nextK_of hc ?_
    conv => lhs; whnf
    refine iteK_bne_t h0 ?_
    conv => lhs; whnf
    refine Eq.trans (b := some (Res.ret (AV.tuple [AV.d (D.list []), AV.d (D.list []), AV.d (D.int IntKind.i64 e)]), [])) (by kernel_rfl) ?_
    rfl
theorem readB76 (b : List UInt8) (hb : b.length ≤ maxLen) (k : Nat) (hk : 14 < k) : icall Try.prog cfg k 76 [.d (.list (bL b))] [] = some (.ret (.tuple [.d (.list (bL (rdB b).1)), .d (.int .i64 (rdB b).2.1), .d (.int .i64 (rdB b).2.2)]), []) := by
  obtain ⟨k, rfl⟩ : ∃ j, k = j + 1 := ⟨k - 1, by omega⟩
  have hc := readU81 b hb k (by omega)
  obtain ⟨hw, hw2, he⟩ := rdU_b b
  generalize hr : rdU b = r at *
  obtain ⟨n, kk, e⟩ := r
  dsimp only at hc hw hw2 he ⊢
  have hmx : (maxLen : Int) ≤ 9223372036854775807 := by decide
  by_cases h0 : e = 0
  · subst h0
    obtain ⟨u1, u2, u3⟩ := hw rfl
    have hlen : (bL b).length = b.length := bL_len b
    have hwl : IntKind.u64.wrap (IntKind.i64.wrap (((bL b).length : Int) - (kk : Int))) = ((b.length - kk : Nat) : Int) := by
      rw [hlen, Go.Rx.wrap_i64 (by omega) (by omega), Go.Rx.wrap_u64 (by omega) (by omega)]; omega
    by_cases h1 : b.length - kk < n
    · rw [rdB_2 hr h1]
      rw [icall_body rfl Try.func76]
      obtain ⟨lp, hlp⟩ : ∃ lp, lp = lpOf Try.prog cfg (icall Try.prog cfg k) Try.f76.ntmps 76 k (([] : Hp).map (·.1)) := ⟨_, rfl⟩
      rw [← hlp]
      conv => lhs; whnf
      refine nextK_of hc ?_
      conv => lhs; whnf
      refine iteK_dec (fun h1 => ?_) (fun h1 => ?_)
      · rw [dec_t h1]
        conv => lhs; whnf
        refine Eq.trans (b := some (Res.ret (AV.tuple [AV.d (D.list []), AV.d (D.int IntKind.i64 (0 : Int)), AV.d (D.int IntKind.i64 (5 : Int))]), [])) (by kernel_rfl) ?_
        rfl
      · rw [dec_f h1]
        (exfalso; omega)
    · rw [rdB_3 hr h1]
      have hwn : IntKind.i64.wrap ((kk : Int) + IntKind.i64.wrap (n : Int)) = ((kk + n : Nat) : Int) := by
        rw [Go.Rx.wrap_i64 (n := (n : Int)) (by omega) (by omega), Go.Rx.wrap_i64 (by omega) (by omega)]; omega
      rw [icall_body rfl Try.func76]
      obtain ⟨lp, hlp⟩ : ∃ lp, lp = lpOf Try.prog cfg (icall Try.prog cfg k) Try.f76.ntmps 76 k (([] : Hp).map (·.1)) := ⟨_, rfl⟩
      rw [← hlp]
      conv => lhs; whnf
      refine nextK_of hc ?_
      conv => lhs; whnf
      refine iteK_dec (fun h1 => ?_) (fun h1 => ?_)
      · rw [dec_t h1]
        (exfalso; omega)
      · rw [dec_f h1]
        conv => lhs; whnf
        refine nextK_of (aop_sliceB (a := kk) (b := kk + n) rfl rfl rfl rfl rfl rfl (bnds_in rfl hwn (by omega) (by omega))) ?_
        conv => lhs; whnf
        refine Eq.trans (b := some (Res.ret (AV.tuple [AV.d (D.list (bL (List.drop kk (List.take (kk + n) b)))), AV.d (D.int IntKind.i64 (IntKind.wrap IntKind.i64 (↑kk + IntKind.wrap IntKind.i64 ↑n))), AV.d (D.int IntKind.i64 (0 : Int))]), [])) (by kernel_rfl) ?_
        (rw [hwn, List.drop_take, show kk + n - kk = n by omega])
  · rw [rdB_1 hr h0]
    rw [icall_body rfl Try.func76]
    obtain ⟨lp, hlp⟩ : ∃ lp, lp = lpOf Try.prog cfg (icall Try.prog cfg k) Try.f76.ntmps 76 k (([] : Hp).map (·.1)) := ⟨_, rfl⟩
    rw [← hlp]
    conv => lhs; whnf
    refine nextK_of hc ?_
    conv => lhs; whnf
    refine iteK_bne_t h0 ?_
    conv => lhs; whnf
    refine Eq.trans (b := some (Res.ret (AV.tuple [AV.d (D.list []), AV.d (D.int IntKind.i64 (0 : Int)), AV.d (D.int IntKind.i64 e)]), [])) (by kernel_rfl) ?_
    rfl
end Go.Rx11
