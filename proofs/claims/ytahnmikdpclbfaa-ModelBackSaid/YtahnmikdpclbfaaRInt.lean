/- A part of the proof of the law: what functions of the program come to, walked by Rx, or plain facts on it. -/
import Derived.Test.YtahnmikdpclbfaaRUint
import Derived.Test.YtahnmikdpclbfaaRSpecX
open Go Go.Rx Go.Proofs Go.Rx11 Go.RxTree
set_option maxRecDepth 1000000
set_option maxHeartbeats 4000000
set_option linter.unusedVariables false
set_option linter.unusedSimpArgs false
namespace Go.Rx11
theorem lenB2 {n m : Nat} (h : n + m ≤ 50000000000000) : (n + m) * (1 + 1) ≤ lim := by unfold lim; omega
theorem int41 (n : Int) (h0 : -9223372036854775808 ≤ n) (h1 : n ≤ 9223372036854775807) (l : Nat) (es : List (List D)) (hl : es.length = l) (hb : l + 20 ≤ 50000000000000) (k : Nat) (hk : 21 < k) : icall Try.prog cfg k 41 [.own (.arg 0) 0 l, .d (.int .i64 n)] [arrB (.arg 0) 0 es] = some (.ret (.own (.arg 0) 1 (es ++ bL (uintB (zig n))).length), [arrB (.arg 0) 1 (es ++ bL (uintB (zig n)))]) := by
  obtain ⟨k, rfl⟩ : ∃ j, k = j + 1 := ⟨k - 1, by omega⟩
  have hc := uint45 (zig n) (zig_lt h0 h1) l es hl hb k (by omega)
  rw [← zig_x h0 h1] at hc
  rw [icall_body rfl Try.func41]
  obtain ⟨lp, hlp⟩ : ∃ lp, lp = lpOf Try.prog cfg (icall Try.prog cfg k) Try.f41.ntmps 41 k ([(Nm.arg 0, AObj.arr 5 1 0 es)].map (·.1)) := ⟨_, rfl⟩
  rw [← hlp]
  conv => lhs; whnf
  refine nextK_of hc ?_
  conv => lhs; whnf
  refine Eq.trans (b := some (Res.ret (AV.own (Nm.arg (0 : Nat)) (nat_lit 1) (List.length (List.append es (bL (uintB (zig n)))))), [(Nm.arg (0 : Nat), AObj.arr (5 : Nat) (1 : Nat) (nat_lit 1) (List.append es (bL (uintB (zig n)))))])) (by kernel_rfl) ?_
  rfl
theorem int43 (n : Int) (h0 : -9223372036854775808 ≤ n) (h1 : n ≤ 9223372036854775807) (k : Nat) (hk : 21 < k) : icall Try.prog cfg k 43 [.d (.int .i64 n)] [] = some (.ret (.d (.list (bL (uintB (zig n))))), []) := by
  obtain ⟨k, rfl⟩ : ∃ j, k = j + 1 := ⟨k - 1, by omega⟩
  have hc := uint47 (zig n) (zig_lt h0 h1) k (by omega)
  have ht : (bL (uintB (zig n))).take (bL (uintB (zig n))).length = bL (uintB (zig n)) := List.take_length
  by_cases hn : 0 ≤ n
  · have hn' : n ≥ 0 := hn
    rw [← zig_p hn h1] at hc
    rw [icall_body rfl Try.func43]
    obtain ⟨lp, hlp⟩ : ∃ lp, lp = lpOf Try.prog cfg (icall Try.prog cfg k) Try.f43.ntmps 43 k (([] : Hp).map (·.1)) := ⟨_, rfl⟩
    rw [← hlp]
    conv => lhs; whnf
    refine iteK_dec_t hn ?_
    conv => lhs; whnf
    refine nextK_of hc ?_
    conv => lhs; whnf
    refine Eq.trans (b := some (Res.ret (AV.d (D.list (List.take (List.length (bL (uintB (zig n)))) (bL (uintB (zig n)))))), [])) (by kernel_rfl) ?_
    (exact congrArg (fun x => some (Res.ret (AV.d (D.list x)), ([] : Hp))) ht)
  · have hn' : ¬ n ≥ 0 := hn
    rw [← zig_n h0 hn] at hc
    rw [icall_body rfl Try.func43]
    obtain ⟨lp, hlp⟩ : ∃ lp, lp = lpOf Try.prog cfg (icall Try.prog cfg k) Try.f43.ntmps 43 k (([] : Hp).map (·.1)) := ⟨_, rfl⟩
    rw [← hlp]
    conv => lhs; whnf
    refine iteK_dec_f hn ?_
    conv => lhs; whnf
    refine nextK_of hc ?_
    conv => lhs; whnf
    refine Eq.trans (b := some (Res.ret (AV.d (D.list (List.take (List.length (bL (uintB (zig n)))) (bL (uintB (zig n)))))), [])) (by kernel_rfl) ?_
    (exact congrArg (fun x => some (Res.ret (AV.d (D.list x)), ([] : Hp))) ht)
theorem wrapL {s : List UInt8} (h : s.length ≤ 1000000) : IntKind.u64.wrap ((bL s).length : Int) = ((s.length : Nat) : Int) := by
  rw [bL_len]; exact Go.Rx.wrap_u64 (by omega) (by omega)
theorem bytes42 (s : List UInt8) (hs : s.length ≤ 1000000) (l : Nat) (es : List (List D)) (hl : es.length = l) (hb : l + 2000000 ≤ 50000000000000) (k : Nat) (hk : 21 < k) : icall Try.prog cfg k 42 [.own (.arg 0) 0 l, .d (.list (bL s))] [arrB (.arg 0) 0 es] = some (.ret (.own (.arg 0) 1 (es ++ bL (bytesB s)).length), [arrB (.arg 0) 1 (es ++ bL (bytesB s))]) := by
  obtain ⟨k, rfl⟩ : ∃ j, k = j + 1 := ⟨k - 1, by omega⟩
  have hc := uint45 s.length (by omega) l es hl (by omega) k (by omega)
  rw [← wrapL hs] at hc
  have h10 := uintB_len10 (n := s.length) (by omega)
  have hB : es ++ bL (bytesB s) = (es ++ bL (uintB s.length)) ++ bL s := by rw [bytesB, ← bL_app, List.append_assoc]
  have hle : (es ++ bL (uintB s.length)).length + (bL s).length ≤ 50000000000000 := by rw [List.length_append, bL_len, bL_len]; omega
  rw [hB]
  generalize es ++ bL (uintB s.length) = R at *
  rw [icall_body rfl Try.func42]
  obtain ⟨lp, hlp⟩ : ∃ lp, lp = lpOf Try.prog cfg (icall Try.prog cfg k) Try.f42.ntmps 42 k ([(Nm.arg 0, AObj.arr 5 1 0 es)].map (·.1)) := ⟨_, rfl⟩
  rw [← hlp]
  conv => lhs; whnf
  refine nextK_of hc ?_
  conv => lhs; whnf
  refine nextK_of (aop_app rfl rfl rfl rfl rfl rfl rfl rfl rfl (bL_all _) rfl rfl (lenB2 hle)) ?_
  conv => lhs; whnf
  refine Eq.trans (b := some (Res.ret (AV.own (Nm.arg (0 : Nat)) (nat_lit 1) (List.length R + List.length (bL s))), [(Nm.arg (0 : Nat), AObj.arr (5 : Nat) (1 : Nat) (nat_lit 1) (List.append (List.take (List.length R) R) (bL s)))])) (by kernel_rfl) ?_
  (show some (Res.ret (.own (Nm.arg 0) 1 (R.length + (bL s).length)), [(Nm.arg 0, AObj.arr 5 1 1 (R.take R.length ++ bL s))]) = _; rw [List.take_length, List.length_append])
theorem bytes42n (s : List UInt8) (hs : s.length ≤ 1000000) (k : Nat) (hk : 21 < k) : icall Try.prog cfg k 42 [.nilsl, .d (.list (bL s))] [] = some (.ret (.own (.res 0) 0 (bL (bytesB s)).length), [arrB (.res 0) 0 (bL (bytesB s))]) := by
  obtain ⟨k, rfl⟩ : ∃ j, k = j + 1 := ⟨k - 1, by omega⟩
  have hc := uint45n s.length (by omega) k (by omega)
  rw [← wrapL hs] at hc
  have h10 := uintB_len10 (n := s.length) (by omega)
  have hB : bL (bytesB s) = bL (uintB s.length) ++ bL s := by rw [bytesB, ← bL_app]
  have hle : (bL (uintB s.length)).length + (bL s).length ≤ 50000000000000 := by rw [bL_len, bL_len]; omega
  rw [hB]
  generalize bL (uintB s.length) = R at *
  rw [icall_body rfl Try.func42]
  obtain ⟨lp, hlp⟩ : ∃ lp, lp = lpOf Try.prog cfg (icall Try.prog cfg k) Try.f42.ntmps 42 k (([] : Hp).map (·.1)) := ⟨_, rfl⟩
  rw [← hlp]
  conv => lhs; whnf
  refine nextK_of hc ?_
  conv => lhs; whnf
  refine nextK_of (aop_app rfl rfl rfl rfl rfl rfl rfl rfl rfl (bL_all _) rfl rfl (lenB2 hle)) ?_
  conv => lhs; whnf
  refine Eq.trans (b := some (Res.ret (AV.own (Nm.res (0 : Nat)) (nat_lit 0) (List.length R + List.length (bL s))), [(Nm.res (0 : Nat), AObj.arr (5 : Nat) (1 : Nat) (nat_lit 0) (List.append (List.take (List.length R) R) (bL s)))])) (by kernel_rfl) ?_
  (show some (Res.ret (.own (Nm.res 0) 0 (R.length + (bL s).length)), [(Nm.res 0, AObj.arr 5 1 0 (R.take R.length ++ bL s))]) = _; rw [List.take_length, List.length_append])
theorem bytes44 (s : List UInt8) (hs : s.length ≤ 1000000) (k : Nat) (hk : 21 < k) : icall Try.prog cfg k 44 [.d (.list (bL s))] [] = some (.ret (.own (.res 0) 0 (bL (bytesB s)).length), [arrB (.res 0) 0 (bL (bytesB s))]) := by
  obtain ⟨k, rfl⟩ : ∃ j, k = j + 1 := ⟨k - 1, by omega⟩
  have hc := uint47 s.length (by omega) k (by omega)
  rw [← wrapL hs] at hc
  have h10 := uintB_len10 (n := s.length) (by omega)
  have hB : bL (bytesB s) = bL (uintB s.length) ++ bL s := by rw [bytesB, ← bL_app]
  have hle : (bL (uintB s.length)).length + (bL s).length ≤ 50000000000000 := by rw [bL_len, bL_len]; omega
  rw [hB]
  generalize bL (uintB s.length) = R at *
  rw [icall_body rfl Try.func44]
  obtain ⟨lp, hlp⟩ : ∃ lp, lp = lpOf Try.prog cfg (icall Try.prog cfg k) Try.f44.ntmps 44 k (([] : Hp).map (·.1)) := ⟨_, rfl⟩
  rw [← hlp]
  conv => lhs; whnf
  refine nextK_of hc ?_
  conv => lhs; whnf
  refine nextK_of (aop_app rfl rfl rfl rfl rfl rfl rfl rfl rfl (bL_all _) rfl rfl (lenB2 hle)) ?_
  conv => lhs; whnf
  refine Eq.trans (b := some (Res.ret (AV.own (Nm.res (0 : Nat)) (nat_lit 0) (List.length R + List.length (bL s))), [(Nm.res (0 : Nat), AObj.arr (5 : Nat) (1 : Nat) (nat_lit 0) (List.append (List.take (List.length R) R) (bL s)))])) (by kernel_rfl) ?_
  (show some (Res.ret (.own (Nm.res 0) 0 (R.length + (bL s).length)), [(Nm.res 0, AObj.arr 5 1 0 (R.take R.length ++ bL s))]) = _; rw [List.take_length, List.length_append])
theorem same18 (a b : List UInt8) (k : Nat) (hk : 0 < k) : icall Try.prog cfg k 18 [.d (.list (bL a)), .d (.list (bL b))] [] = some (.ret (.d (.bool (a == b))), []) := by
  obtain ⟨k, rfl⟩ : ∃ j, k = j + 1 := ⟨k - 1, by omega⟩
  rw [icall_body rfl Try.func18]
  obtain ⟨lp, hlp⟩ : ∃ lp, lp = lpOf Try.prog cfg (icall Try.prog cfg k) Try.f18.ntmps 18 k (([] : Hp).map (·.1)) := ⟨_, rfl⟩
  rw [← hlp]
  conv => lhs; whnf
  refine nextK_of (aop_text rfl rfl rfl rfl) ?_
  conv => lhs; whnf
  refine nextK_of (aop_text rfl rfl rfl rfl) ?_
  conv => lhs; whnf
  refine Eq.trans (b := some (Res.ret (AV.d (D.bool (a == b))), [])) (by kernel_rfl) ?_
  rfl
end Go.Rx11
