/- A part of the proof of the law: what functions of the program come to, walked by Rx, or plain facts on it. -/
import Derived.Test.YtahnmikdpclbfaaRxCfg11
import Derived.Test.YtahnmikdpclbfaaRSpecV
open Go Go.Rx Go.Proofs Go.Rx11 Go.RxTree
set_option maxRecDepth 1000000
set_option maxHeartbeats 4000000
set_option linter.unusedVariables false
set_option linter.unusedSimpArgs false
namespace Go.Rx11
theorem lenB {n : Nat} (h : n ≤ 50000000000000) : (n + 1) * (1 + 1) ≤ lim := by unfold lim; omega
abbrev arrB (o : Nm) (v : Nat) (es : List (List D)) : Nm × AObj := (o, .arr 5 1 v es)
theorem up1 (j : Nat) {lp : LP} (es0 : List (List D)) (hlp : lp = lpOf Try.prog cfg (icall Try.prog cfg j) Try.f45.ntmps 45 j (([(Nm.arg 0, AObj.arr 5 1 0 es0)].map (·.1)))) :
    ∀ (m n : Nat) (z : Int) (l : Nat) (es : List (List D)) (lf : Nat) (st : St), n < 128 ^ (m + 1) → n < 18446744073709551616 → z = (n : Int) → es.length = l → l + m ≤ 50000000000000 → m < lf →
      prune [Nm.arg 0] [0, 1] st = some ⟨[(0, .own (Nm.arg 0) 1 l), (1, .d (.int .u64 z))], [arrB (Nm.arg 0) 1 es]⟩ →
      loopK Try.prog cfg (icall Try.prog cfg j) lp Try.f45.ntmps 45 [Nm.arg 0] (bodyAt Try.f45 1) lf st (exitP [Nm.arg 0] (some [0, 1])) = some (.exit 0, ⟨[(0, .own (Nm.arg 0) 1 (es ++ bL (uintP n)).length), (1, .d (.int .u64 (uintQ n)))], [arrB (Nm.arg 0) 1 (es ++ bL (uintP n))]⟩) := by
  intro m
  induction m with
  | zero =>
    intro n z l es lf st hn hm hz hl hb hlf hp
    obtain ⟨lf, rfl⟩ : ∃ n, lf = n + 1 := ⟨lf - 1, by omega⟩
    refine loop_step hp ?_
    have hend : ¬ z ≥ 128 := by omega
    rw [uintP_0 (by omega), uintQ_0 (by omega), bL_nil, List.append_nil, hl, ← hz]
    conv => lhs; whnf
    refine iteK_dec_f hend ?_
    conv => lhs; whnf
    refine Eq.trans (b := some (Fx.exit (0 : Nat), St.mk [((0 : Nat), AV.own (Nm.arg (0 : Nat)) (nat_lit 1) l), ((1 : Nat), AV.d (D.int IntKind.u64 z))] [(Nm.arg (0 : Nat), AObj.arr (5 : Nat) (1 : Nat) (nat_lit 1) es)])) (by kernel_rfl) ?_
    rfl
  | succ m ihm =>
    intro n z l es lf st hn hm hz hl hb hlf hp
    obtain ⟨lf, rfl⟩ : ∃ n, lf = n + 1 := ⟨lf - 1, by omega⟩
    refine loop_step hp ?_
    by_cases h1 : n < 128
    · have hend : ¬ z ≥ 128 := by omega
      rw [uintP_0 h1, uintQ_0 h1, bL_nil, List.append_nil, hl, ← hz]
      conv => lhs; whnf
      refine iteK_dec_f hend ?_
      conv => lhs; whnf
      refine Eq.trans (b := some (Fx.exit (0 : Nat), St.mk [((0 : Nat), AV.own (Nm.arg (0 : Nat)) (nat_lit 1) l), ((1 : Nat), AV.d (D.int IntKind.u64 z))] [(Nm.arg (0 : Nat), AObj.arr (5 : Nat) (1 : Nat) (nat_lit 1) es)])) (by kernel_rfl) ?_
      rfl
    · have hend : z ≥ 128 := by omega
      have hes : es.take l ++ [[.int .u8 (Go.bits .or .u8 (IntKind.u8.wrap z) 128)]] = es ++ bL [UInt8.ofNat (n % 128 + 128)] := by
        rw [List.take_of_length_le (by omega), contB hz]; rfl
      have he : es ++ bL (uintP n) = (es ++ bL [UInt8.ofNat (n % 128 + 128)]) ++ bL (uintP (n / 128)) := by rw [uintP_1 h1, List.append_assoc]; rfl
      rw [he, uintQ_1 h1, ← hes]
      conv => lhs; whnf
      refine iteK_dec_t hend ?_
      conv => lhs; whnf
      refine nextK_of (aop_app rfl rfl rfl rfl rfl rfl rfl rfl rfl rfl rfl rfl (lenB (by omega))) ?_
      conv => lhs; whnf
      refine Eq.trans (ihm (n / 128) _ (l + 1) (es.take l ++ [[.int .u8 (Go.bits .or .u8 (IntKind.u8.wrap z) 128)]]) lf _ (by rw [Nat.pow_succ] at hn; omega) (by omega) (shr7 hz) (by rw [hes, List.length_append, bL_len, hl]; rfl) (by omega) (by omega) rfl) ?_
      rfl
theorem up0a (j : Nat) {lp : LP} (l : Nat) (es : List (List D)) (hl : es.length = l) (hb : l + 20 ≤ 50000000000000) (n : Nat) (z : Int) (hz : z = (n : Int)) (h1 : n < 128) (lf : Nat) (hlf : 0 < lf) (st : St) (hp : prune [Nm.arg 0] [0, 1] st = some ⟨[(0, .own (Nm.arg 0) 0 l), (1, .d (.int .u64 z))], [arrB (Nm.arg 0) 0 es]⟩) :
      loopK Try.prog cfg (icall Try.prog cfg j) lp Try.f45.ntmps 45 [Nm.arg 0] (bodyAt Try.f45 1) lf st (exitP [Nm.arg 0] (some [0, 1])) = some (.exit 0, ⟨[(0, .own (Nm.arg 0) 0 l), (1, .d (.int .u64 z))], [arrB (Nm.arg 0) 0 es]⟩) := by
  obtain ⟨lf, rfl⟩ : ∃ n, lf = n + 1 := ⟨lf - 1, by omega⟩
  refine loop_step hp ?_
  have hend : ¬ z ≥ 128 := by omega
  conv => lhs; whnf
  refine iteK_dec_f hend ?_
  conv => lhs; whnf
  refine Eq.trans (b := some (Fx.exit (0 : Nat), St.mk [((0 : Nat), AV.own (Nm.arg (0 : Nat)) (nat_lit 0) l), ((1 : Nat), AV.d (D.int IntKind.u64 z))] [(Nm.arg (0 : Nat), AObj.arr (5 : Nat) (1 : Nat) (nat_lit 0) es)])) (by kernel_rfl) ?_
  rfl
theorem up0b (j : Nat) {lp : LP} (l : Nat) (es : List (List D)) (hl : es.length = l) (hb : l + 20 ≤ 50000000000000) (hlp : lp = lpOf Try.prog cfg (icall Try.prog cfg j) Try.f45.ntmps 45 j (([(Nm.arg 0, AObj.arr 5 1 0 es)].map (·.1)))) (n : Nat) (z : Int) (hz : z = (n : Int)) (hm : n < 18446744073709551616) (h1 : ¬n < 128) (lf : Nat) (hlf : 10 < lf) (st : St) (hp : prune [Nm.arg 0] [0, 1] st = some ⟨[(0, .own (Nm.arg 0) 0 l), (1, .d (.int .u64 z))], [arrB (Nm.arg 0) 0 es]⟩) :
      loopK Try.prog cfg (icall Try.prog cfg j) lp Try.f45.ntmps 45 [Nm.arg 0] (bodyAt Try.f45 1) lf st (exitP [Nm.arg 0] (some [0, 1])) = some (.exit 0, ⟨[(0, .own (Nm.arg 0) 1 (es ++ bL (uintP n)).length), (1, .d (.int .u64 (uintQ n)))], [arrB (Nm.arg 0) 1 (es ++ bL (uintP n))]⟩) := by
  obtain ⟨lf, rfl⟩ : ∃ n, lf = n + 1 := ⟨lf - 1, by omega⟩
  refine loop_step hp ?_
  have hend : z ≥ 128 := by omega
  have hes : es.take l ++ [[.int .u8 (Go.bits .or .u8 (IntKind.u8.wrap z) 128)]] = es ++ bL [UInt8.ofNat (n % 128 + 128)] := by
    rw [List.take_of_length_le (by omega), contB hz]; rfl
  have he : es ++ bL (uintP n) = (es ++ bL [UInt8.ofNat (n % 128 + 128)]) ++ bL (uintP (n / 128)) := by rw [uintP_1 h1, List.append_assoc]; rfl
  rw [he, uintQ_1 h1, ← hes]
  conv => lhs; whnf
  refine iteK_dec_t hend ?_
  conv => lhs; whnf
  refine nextK_of (aop_app rfl rfl rfl rfl rfl rfl rfl rfl rfl rfl rfl rfl (lenB (by omega))) ?_
  conv => lhs; whnf
  refine Eq.trans (up1 j es hlp 9 (n / 128) _ (l + 1) (es.take l ++ [[.int .u8 (Go.bits .or .u8 (IntKind.u8.wrap z) 128)]]) lf _ (by omega) (by omega) (shr7 hz) (by rw [hes, List.length_append, bL_len, hl]; rfl) (by omega) (by omega) rfl) ?_
  rfl
theorem un1 (j : Nat) {lp : LP} (hlp : lp = lpOf Try.prog cfg (icall Try.prog cfg j) Try.f45.ntmps 45 j ((([] : Hp).map (·.1)))) :
    ∀ (m n : Nat) (z : Int) (l : Nat) (es : List (List D)) (lf : Nat) (st : St), n < 128 ^ (m + 1) → n < 18446744073709551616 → z = (n : Int) → es.length = l → l + m ≤ 50000000000000 → m < lf →
      prune [] [0, 1] st = some ⟨[(0, .own (Nm.slot 12) 0 l), (1, .d (.int .u64 z))], [arrB (Nm.slot 12) 0 es]⟩ →
      loopK Try.prog cfg (icall Try.prog cfg j) lp Try.f45.ntmps 45 [] (bodyAt Try.f45 1) lf st (exitP [] (some [0, 1])) = some (.exit 0, ⟨[(0, .own (Nm.slot 12) 0 (es ++ bL (uintP n)).length), (1, .d (.int .u64 (uintQ n)))], [arrB (Nm.slot 12) 0 (es ++ bL (uintP n))]⟩) := by
  intro m
  induction m with
  | zero =>
    intro n z l es lf st hn hm hz hl hb hlf hp
    obtain ⟨lf, rfl⟩ : ∃ n, lf = n + 1 := ⟨lf - 1, by omega⟩
    refine loop_step hp ?_
    have hend : ¬ z ≥ 128 := by omega
    rw [uintP_0 (by omega), uintQ_0 (by omega), bL_nil, List.append_nil, hl, ← hz]
    conv => lhs; whnf
    refine iteK_dec_f hend ?_
    conv => lhs; whnf
    refine Eq.trans (b := some (Fx.exit (0 : Nat), St.mk [((0 : Nat), AV.own (Nm.slot (12 : Nat)) (nat_lit 0) l), ((1 : Nat), AV.d (D.int IntKind.u64 z))] [(Nm.slot (12 : Nat), AObj.arr (5 : Nat) (1 : Nat) (nat_lit 0) es)])) (by kernel_rfl) ?_
    rfl
  | succ m ihm =>
    intro n z l es lf st hn hm hz hl hb hlf hp
    obtain ⟨lf, rfl⟩ : ∃ n, lf = n + 1 := ⟨lf - 1, by omega⟩
    refine loop_step hp ?_
    by_cases h1 : n < 128
    · have hend : ¬ z ≥ 128 := by omega
      rw [uintP_0 h1, uintQ_0 h1, bL_nil, List.append_nil, hl, ← hz]
      conv => lhs; whnf
      refine iteK_dec_f hend ?_
      conv => lhs; whnf
      refine Eq.trans (b := some (Fx.exit (0 : Nat), St.mk [((0 : Nat), AV.own (Nm.slot (12 : Nat)) (nat_lit 0) l), ((1 : Nat), AV.d (D.int IntKind.u64 z))] [(Nm.slot (12 : Nat), AObj.arr (5 : Nat) (1 : Nat) (nat_lit 0) es)])) (by kernel_rfl) ?_
      rfl
    · have hend : z ≥ 128 := by omega
      have hes : es.take l ++ [[.int .u8 (Go.bits .or .u8 (IntKind.u8.wrap z) 128)]] = es ++ bL [UInt8.ofNat (n % 128 + 128)] := by
        rw [List.take_of_length_le (by omega), contB hz]; rfl
      have he : es ++ bL (uintP n) = (es ++ bL [UInt8.ofNat (n % 128 + 128)]) ++ bL (uintP (n / 128)) := by rw [uintP_1 h1, List.append_assoc]; rfl
      rw [he, uintQ_1 h1, ← hes]
      conv => lhs; whnf
      refine iteK_dec_t hend ?_
      conv => lhs; whnf
      refine nextK_of (aop_app rfl rfl rfl rfl rfl rfl rfl rfl rfl rfl rfl rfl (lenB (by omega))) ?_
      conv => lhs; whnf
      refine Eq.trans (ihm (n / 128) _ (l + 1) (es.take l ++ [[.int .u8 (Go.bits .or .u8 (IntKind.u8.wrap z) 128)]]) lf _ (by rw [Nat.pow_succ] at hn; omega) (by omega) (shr7 hz) (by rw [hes, List.length_append, bL_len, hl]; rfl) (by omega) (by omega) rfl) ?_
      rfl
theorem un0a (j : Nat) {lp : LP} (n : Nat) (z : Int) (hz : z = (n : Int)) (h1 : n < 128) (lf : Nat) (hlf : 0 < lf) (st : St) (hp : prune [] [0, 1] st = some ⟨[(0, .nilsl), (1, .d (.int .u64 z))], []⟩) :
      loopK Try.prog cfg (icall Try.prog cfg j) lp Try.f45.ntmps 45 [] (bodyAt Try.f45 1) lf st (exitP [] (some [0, 1])) = some (.exit 0, ⟨[(0, .nilsl), (1, .d (.int .u64 z))], []⟩) := by
  obtain ⟨lf, rfl⟩ : ∃ n, lf = n + 1 := ⟨lf - 1, by omega⟩
  refine loop_step hp ?_
  have hend : ¬ z ≥ 128 := by omega
  conv => lhs; whnf
  refine iteK_dec_f hend ?_
  conv => lhs; whnf
  refine Eq.trans (b := some (Fx.exit (0 : Nat), St.mk [((0 : Nat), AV.nilsl), ((1 : Nat), AV.d (D.int IntKind.u64 z))] [])) (by kernel_rfl) ?_
  rfl
theorem un0b (j : Nat) {lp : LP} (hlp : lp = lpOf Try.prog cfg (icall Try.prog cfg j) Try.f45.ntmps 45 j ((([] : Hp).map (·.1)))) (n : Nat) (z : Int) (hz : z = (n : Int)) (hm : n < 18446744073709551616) (h1 : ¬n < 128) (lf : Nat) (hlf : 10 < lf) (st : St) (hp : prune [] [0, 1] st = some ⟨[(0, .nilsl), (1, .d (.int .u64 z))], []⟩) :
      loopK Try.prog cfg (icall Try.prog cfg j) lp Try.f45.ntmps 45 [] (bodyAt Try.f45 1) lf st (exitP [] (some [0, 1])) = some (.exit 0, ⟨[(0, .own (Nm.slot 12) 0 (bL (uintP n)).length), (1, .d (.int .u64 (uintQ n)))], [arrB (Nm.slot 12) 0 (bL (uintP n))]⟩) := by
  obtain ⟨lf, rfl⟩ : ∃ n, lf = n + 1 := ⟨lf - 1, by omega⟩
  refine loop_step hp ?_
  have hend : z ≥ 128 := by omega
  have hes : [[.int .u8 (Go.bits .or .u8 (IntKind.u8.wrap z) 128)]] = bL [UInt8.ofNat (n % 128 + 128)] := by
    rw [contB hz]; rfl
  have he : bL (uintP n) = (bL [UInt8.ofNat (n % 128 + 128)]) ++ bL (uintP (n / 128)) := by rw [uintP_1 h1]; rfl
  rw [he, uintQ_1 h1, ← hes]
  conv => lhs; whnf
  refine iteK_dec_t hend ?_
  conv => lhs; whnf
  refine Eq.trans (un1 j  hlp 9 (n / 128) _ 1 ([[.int .u8 (Go.bits .or .u8 (IntKind.u8.wrap z) 128)]]) lf _ (by omega) (by omega) (shr7 hz) (by rfl) (by omega) (by omega) rfl) ?_
  rfl
theorem ur1 (j : Nat) {lp : LP} (hlp : lp = lpOf Try.prog cfg (icall Try.prog cfg j) Try.f47.ntmps 47 j ((([] : Hp).map (·.1)))) :
    ∀ (m n : Nat) (z : Int) (l : Nat) (es : List (List D)) (lf : Nat) (st : St), n < 128 ^ (m + 1) → n < 18446744073709551616 → z = (n : Int) → es.length = l → l + m ≤ 50000000000000 → m < lf →
      prune [] [3, 4] st = some ⟨[(3, .own (Nm.slot 14) 0 l), (4, .d (.int .u64 z))], [arrB (Nm.slot 14) 0 es]⟩ →
      loopK Try.prog cfg (icall Try.prog cfg j) lp Try.f47.ntmps 47 [] (bodyAt Try.f47 3) lf st (exitP [] (some [3, 4])) = some (.exit 0, ⟨[(3, .own (Nm.slot 14) 0 (es ++ bL (uintP n)).length), (4, .d (.int .u64 (uintQ n)))], [arrB (Nm.slot 14) 0 (es ++ bL (uintP n))]⟩) := by
  intro m
  induction m with
  | zero =>
    intro n z l es lf st hn hm hz hl hb hlf hp
    obtain ⟨lf, rfl⟩ : ∃ n, lf = n + 1 := ⟨lf - 1, by omega⟩
    refine loop_step hp ?_
    have hend : ¬ z > 127 := by omega
    rw [uintP_0 (by omega), uintQ_0 (by omega), bL_nil, List.append_nil, hl, ← hz]
    conv => lhs; whnf
    refine iteK_dec_f hend ?_
    conv => lhs; whnf
    refine Eq.trans (b := some (Fx.exit (0 : Nat), St.mk [((3 : Nat), AV.own (Nm.slot (14 : Nat)) (nat_lit 0) l), ((4 : Nat), AV.d (D.int IntKind.u64 z))] [(Nm.slot (14 : Nat), AObj.arr (5 : Nat) (1 : Nat) (nat_lit 0) es)])) (by kernel_rfl) ?_
    rfl
  | succ m ihm =>
    intro n z l es lf st hn hm hz hl hb hlf hp
    obtain ⟨lf, rfl⟩ : ∃ n, lf = n + 1 := ⟨lf - 1, by omega⟩
    refine loop_step hp ?_
    by_cases h1 : n < 128
    · have hend : ¬ z > 127 := by omega
      rw [uintP_0 h1, uintQ_0 h1, bL_nil, List.append_nil, hl, ← hz]
      conv => lhs; whnf
      refine iteK_dec_f hend ?_
      conv => lhs; whnf
      refine Eq.trans (b := some (Fx.exit (0 : Nat), St.mk [((3 : Nat), AV.own (Nm.slot (14 : Nat)) (nat_lit 0) l), ((4 : Nat), AV.d (D.int IntKind.u64 z))] [(Nm.slot (14 : Nat), AObj.arr (5 : Nat) (1 : Nat) (nat_lit 0) es)])) (by kernel_rfl) ?_
      rfl
    · have hend : z > 127 := by omega
      have hes : es.take l ++ [[.int .u8 (IntKind.u8.wrap (IntKind.u64.wrap (128 + z.tmod 128)))]] = es ++ bL [UInt8.ofNat (n % 128 + 128)] := by
        rw [List.take_of_length_le (by omega), contB2 hz]; rfl
      have he : es ++ bL (uintP n) = (es ++ bL [UInt8.ofNat (n % 128 + 128)]) ++ bL (uintP (n / 128)) := by rw [uintP_1 h1, List.append_assoc]; rfl
      rw [he, uintQ_1 h1, ← hes]
      conv => lhs; whnf
      refine iteK_dec_t hend ?_
      conv => lhs; whnf
      refine nextK_of (aop_app rfl rfl rfl rfl rfl rfl rfl rfl rfl rfl rfl rfl (lenB (by omega))) ?_
      conv => lhs; whnf
      refine Eq.trans (ihm (n / 128) _ (l + 1) (es.take l ++ [[.int .u8 (IntKind.u8.wrap (IntKind.u64.wrap (128 + z.tmod 128)))]]) lf _ (by rw [Nat.pow_succ] at hn; omega) (by omega) (quo128 hz (by omega)) (by rw [hes, List.length_append, bL_len, hl]; rfl) (by omega) (by omega) rfl) ?_
      rfl
theorem ur0a (j : Nat) {lp : LP} (n : Nat) (z : Int) (hz : z = (n : Int)) (h1 : n < 128) (lf : Nat) (hlf : 0 < lf) (st : St) (hp : prune [] [3, 4] st = some ⟨[(3, .nilsl), (4, .d (.int .u64 z))], []⟩) :
      loopK Try.prog cfg (icall Try.prog cfg j) lp Try.f47.ntmps 47 [] (bodyAt Try.f47 3) lf st (exitP [] (some [3, 4])) = some (.exit 0, ⟨[(3, .nilsl), (4, .d (.int .u64 z))], []⟩) := by
  obtain ⟨lf, rfl⟩ : ∃ n, lf = n + 1 := ⟨lf - 1, by omega⟩
  refine loop_step hp ?_
  have hend : ¬ z > 127 := by omega
  conv => lhs; whnf
  refine iteK_dec_f hend ?_
  conv => lhs; whnf
  refine Eq.trans (b := some (Fx.exit (0 : Nat), St.mk [((3 : Nat), AV.nilsl), ((4 : Nat), AV.d (D.int IntKind.u64 z))] [])) (by kernel_rfl) ?_
  rfl
theorem ur0b (j : Nat) {lp : LP} (hlp : lp = lpOf Try.prog cfg (icall Try.prog cfg j) Try.f47.ntmps 47 j ((([] : Hp).map (·.1)))) (n : Nat) (z : Int) (hz : z = (n : Int)) (hm : n < 18446744073709551616) (h1 : ¬n < 128) (lf : Nat) (hlf : 10 < lf) (st : St) (hp : prune [] [3, 4] st = some ⟨[(3, .nilsl), (4, .d (.int .u64 z))], []⟩) :
      loopK Try.prog cfg (icall Try.prog cfg j) lp Try.f47.ntmps 47 [] (bodyAt Try.f47 3) lf st (exitP [] (some [3, 4])) = some (.exit 0, ⟨[(3, .own (Nm.slot 14) 0 (bL (uintP n)).length), (4, .d (.int .u64 (uintQ n)))], [arrB (Nm.slot 14) 0 (bL (uintP n))]⟩) := by
  obtain ⟨lf, rfl⟩ : ∃ n, lf = n + 1 := ⟨lf - 1, by omega⟩
  refine loop_step hp ?_
  have hend : z > 127 := by omega
  have hes : [[.int .u8 (IntKind.u8.wrap (IntKind.u64.wrap (128 + z.tmod 128)))]] = bL [UInt8.ofNat (n % 128 + 128)] := by
    rw [contB2 hz]; rfl
  have he : bL (uintP n) = (bL [UInt8.ofNat (n % 128 + 128)]) ++ bL (uintP (n / 128)) := by rw [uintP_1 h1]; rfl
  rw [he, uintQ_1 h1, ← hes]
  conv => lhs; whnf
  refine iteK_dec_t hend ?_
  conv => lhs; whnf
  refine Eq.trans (ur1 j  hlp 9 (n / 128) _ 1 ([[.int .u8 (IntKind.u8.wrap (IntKind.u64.wrap (128 + z.tmod 128)))]]) lf _ (by omega) (by omega) (quo128 hz (by omega)) (by rfl) (by omega) (by omega) rfl) ?_
  rfl
theorem uint45 (n : Nat) (hm : n < 18446744073709551616) (l : Nat) (es : List (List D)) (hl : es.length = l) (hb : l + 20 ≤ 50000000000000) (k : Nat) (hk : 20 < k) : icall Try.prog cfg k 45 [.own (.arg 0) 0 l, .d (.int .u64 n)] [arrB (.arg 0) 0 es] = some (.ret (.own (.arg 0) 1 (es ++ bL (uintB n)).length), [arrB (.arg 0) 1 (es ++ bL (uintB n))]) := by
  obtain ⟨k, rfl⟩ : ∃ j, k = j + 1 := ⟨k - 1, by omega⟩
  obtain ⟨e1, e2, e3⟩ := uintPQ 9 n (by omega)
  have hlast := lastB (z := ((uintQ n : Nat) : Int)) rfl e2
  have hBe : es ++ bL (uintB n) = (es ++ bL (uintP n)) ++ [[.int .u8 (IntKind.u8.wrap ((uintQ n : Nat) : Int))]] := by rw [e1, hlast, List.append_assoc, ← bL_app]; rfl
  have hlen : (es ++ bL (uintP n)).length ≤ 50000000000000 := by rw [List.length_append, bL_len]; omega
  by_cases h1 : n < 128
  · rw [uintP_0 h1, uintQ_0 h1, bL_nil, List.append_nil] at hBe
    rw [icall_body rfl Try.func45]
    obtain ⟨lp, hlp⟩ : ∃ lp, lp = lpOf Try.prog cfg (icall Try.prog cfg k) Try.f45.ntmps 45 k ([(Nm.arg 0, AObj.arr 5 1 0 es)].map (·.1)) := ⟨_, rfl⟩
    rw [← hlp]
    conv => lhs; whnf
    refine nextK_of (loop_at hlp (up0a k l es hl hb n _ rfl h1 k (by omega) _ rfl)) ?_
    conv => lhs; whnf
    refine nextK_of (aop_app rfl rfl rfl rfl rfl rfl rfl rfl rfl rfl rfl rfl (lenB (by omega))) ?_
    conv => lhs; whnf
    refine Eq.trans (b := some (Res.ret (AV.own (Nm.arg (0 : Nat)) (nat_lit 1) (l + List.length [[D.int IntKind.u8 (IntKind.wrap IntKind.u8 ↑n)]])), [(Nm.arg (0 : Nat), AObj.arr (5 : Nat) (1 : Nat) (nat_lit 1) (List.append (List.take l es) [[D.int IntKind.u8 (IntKind.wrap IntKind.u8 ↑n)]]))])) (by kernel_rfl) ?_
    (show some (Res.ret (.own (Nm.arg 0) 1 (l + 1)), [(Nm.arg 0, AObj.arr 5 1 1 (es.take l ++ [[.int .u8 (IntKind.u8.wrap ((n : Nat) : Int))]]))]) = _; rw [hBe, List.take_of_length_le (by omega), List.length_append, hl]; rfl)
  · rw [icall_body rfl Try.func45]
    obtain ⟨lp, hlp⟩ : ∃ lp, lp = lpOf Try.prog cfg (icall Try.prog cfg k) Try.f45.ntmps 45 k ([(Nm.arg 0, AObj.arr 5 1 0 es)].map (·.1)) := ⟨_, rfl⟩
    rw [← hlp]
    conv => lhs; whnf
    refine nextK_of (loop_at hlp (up0b k l es hl hb hlp n _ rfl hm h1 k (by omega) _ rfl)) ?_
    conv => lhs; whnf
    refine nextK_of (aop_app rfl rfl rfl rfl rfl rfl rfl rfl rfl rfl rfl rfl (lenB hlen)) ?_
    conv => lhs; whnf
    refine Eq.trans (b := some (Res.ret (AV.own (Nm.arg (0 : Nat)) (nat_lit 1) (List.length (List.append es (bL (uintP n))) + List.length [[D.int IntKind.u8 (IntKind.wrap IntKind.u8 ↑(uintQ n))]])), [(Nm.arg (0 : Nat), AObj.arr (5 : Nat) (1 : Nat) (nat_lit 1) (List.append (List.take (List.length (List.append es (bL (uintP n)))) (List.append es (bL (uintP n)))) [[D.int IntKind.u8 (IntKind.wrap IntKind.u8 ↑(uintQ n))]]))])) (by kernel_rfl) ?_
    (show some (Res.ret (.own (Nm.arg 0) 1 ((es ++ bL (uintP n)).length + 1)), [((Nm.arg 0), AObj.arr 5 1 1 ((es ++ bL (uintP n)).take (es ++ bL (uintP n)).length ++ [[.int .u8 (IntKind.u8.wrap ((uintQ n : Nat) : Int))]]))]) = _; rw [hBe, List.take_length]; simp only [List.length_append]; rfl)
theorem uint45n (n : Nat) (hm : n < 18446744073709551616) (k : Nat) (hk : 20 < k) : icall Try.prog cfg k 45 [.nilsl, .d (.int .u64 n)] [] = some (.ret (.own (.res 0) 0 (bL (uintB n)).length), [arrB (.res 0) 0 (bL (uintB n))]) := by
  obtain ⟨k, rfl⟩ : ∃ j, k = j + 1 := ⟨k - 1, by omega⟩
  obtain ⟨e1, e2, e3⟩ := uintPQ 9 n (by omega)
  have hlast := lastB (z := ((uintQ n : Nat) : Int)) rfl e2
  have hBe : bL (uintB n) = bL (uintP n) ++ [[.int .u8 (IntKind.u8.wrap ((uintQ n : Nat) : Int))]] := by rw [e1, hlast, ← bL_app]; rfl
  have hlen : (bL (uintP n)).length ≤ 50000000000000 := by rw [bL_len]; omega
  by_cases h1 : n < 128
  · rw [uintP_0 h1, uintQ_0 h1, bL_nil] at hBe
    rw [icall_body rfl Try.func45]
    obtain ⟨lp, hlp⟩ : ∃ lp, lp = lpOf Try.prog cfg (icall Try.prog cfg k) Try.f45.ntmps 45 k (([] : Hp).map (·.1)) := ⟨_, rfl⟩
    rw [← hlp]
    conv => lhs; whnf
    refine nextK_of (loop_at hlp (un0a k n _ rfl h1 k (by omega) _ rfl)) ?_
    conv => lhs; whnf
    refine Eq.trans (b := some (Res.ret (AV.own (Nm.res (0 : Nat)) (nat_lit 0) (List.length [[D.int IntKind.u8 (IntKind.wrap IntKind.u8 ↑n)]])), [(Nm.res (0 : Nat), AObj.arr (5 : Nat) (1 : Nat) (nat_lit 0) [[D.int IntKind.u8 (IntKind.wrap IntKind.u8 ↑n)]])])) (by kernel_rfl) ?_
    (rw [hBe]; rfl)
  · rw [icall_body rfl Try.func45]
    obtain ⟨lp, hlp⟩ : ∃ lp, lp = lpOf Try.prog cfg (icall Try.prog cfg k) Try.f45.ntmps 45 k (([] : Hp).map (·.1)) := ⟨_, rfl⟩
    rw [← hlp]
    conv => lhs; whnf
    refine nextK_of (loop_at hlp (un0b k hlp n _ rfl hm h1 k (by omega) _ rfl)) ?_
    conv => lhs; whnf
    refine nextK_of (aop_app rfl rfl rfl rfl rfl rfl rfl rfl rfl rfl rfl rfl (lenB hlen)) ?_
    conv => lhs; whnf
    refine Eq.trans (b := some (Res.ret (AV.own (Nm.res (0 : Nat)) (nat_lit 0) (List.length (bL (uintP n)) + List.length [[D.int IntKind.u8 (IntKind.wrap IntKind.u8 ↑(uintQ n))]])), [(Nm.res (0 : Nat), AObj.arr (5 : Nat) (1 : Nat) (nat_lit 0) (List.append (List.take (List.length (bL (uintP n))) (bL (uintP n))) [[D.int IntKind.u8 (IntKind.wrap IntKind.u8 ↑(uintQ n))]]))])) (by kernel_rfl) ?_
    (show some (Res.ret (.own (Nm.res 0) 0 ((bL (uintP n)).length + 1)), [((Nm.res 0), AObj.arr 5 1 0 ((bL (uintP n)).take (bL (uintP n)).length ++ [[.int .u8 (IntKind.u8.wrap ((uintQ n : Nat) : Int))]]))]) = _; rw [hBe, List.take_length]; simp only [List.length_append]; rfl)
theorem uint47 (n : Nat) (hm : n < 18446744073709551616) (k : Nat) (hk : 20 < k) : icall Try.prog cfg k 47 [.d (.int .u64 n)] [] = some (.ret (.own (.res 0) 0 (bL (uintB n)).length), [arrB (.res 0) 0 (bL (uintB n))]) := by
  obtain ⟨k, rfl⟩ : ∃ j, k = j + 1 := ⟨k - 1, by omega⟩
  obtain ⟨e1, e2, e3⟩ := uintPQ 9 n (by omega)
  have hlast := lastB (z := ((uintQ n : Nat) : Int)) rfl e2
  have hBe : bL (uintB n) = bL (uintP n) ++ [[.int .u8 (IntKind.u8.wrap ((uintQ n : Nat) : Int))]] := by rw [e1, hlast, ← bL_app]; rfl
  have hlen : (bL (uintP n)).length ≤ 50000000000000 := by rw [bL_len]; omega
  by_cases h1 : n < 128
  · rw [uintP_0 h1, uintQ_0 h1, bL_nil] at hBe
    rw [icall_body rfl Try.func47]
    obtain ⟨lp, hlp⟩ : ∃ lp, lp = lpOf Try.prog cfg (icall Try.prog cfg k) Try.f47.ntmps 47 k (([] : Hp).map (·.1)) := ⟨_, rfl⟩
    rw [← hlp]
    conv => lhs; whnf
    refine nextK_of (loop_at hlp (ur0a k n _ rfl h1 k (by omega) _ rfl)) ?_
    conv => lhs; whnf
    refine Eq.trans (b := some (Res.ret (AV.own (Nm.res (0 : Nat)) (nat_lit 0) (List.length [[D.int IntKind.u8 (IntKind.wrap IntKind.u8 ↑n)]])), [(Nm.res (0 : Nat), AObj.arr (5 : Nat) (1 : Nat) (nat_lit 0) [[D.int IntKind.u8 (IntKind.wrap IntKind.u8 ↑n)]])])) (by kernel_rfl) ?_
    (rw [hBe]; rfl)
  · rw [icall_body rfl Try.func47]
    obtain ⟨lp, hlp⟩ : ∃ lp, lp = lpOf Try.prog cfg (icall Try.prog cfg k) Try.f47.ntmps 47 k (([] : Hp).map (·.1)) := ⟨_, rfl⟩
    rw [← hlp]
    conv => lhs; whnf
    refine nextK_of (loop_at hlp (ur0b k hlp n _ rfl hm h1 k (by omega) _ rfl)) ?_
    conv => lhs; whnf
    refine nextK_of (aop_app rfl rfl rfl rfl rfl rfl rfl rfl rfl rfl rfl rfl (lenB hlen)) ?_
    conv => lhs; whnf
    refine Eq.trans (b := some (Res.ret (AV.own (Nm.res (0 : Nat)) (nat_lit 0) (List.length (bL (uintP n)) + List.length [[D.int IntKind.u8 (IntKind.wrap IntKind.u8 ↑(uintQ n))]])), [(Nm.res (0 : Nat), AObj.arr (5 : Nat) (1 : Nat) (nat_lit 0) (List.append (List.take (List.length (bL (uintP n))) (bL (uintP n))) [[D.int IntKind.u8 (IntKind.wrap IntKind.u8 ↑(uintQ n))]]))])) (by kernel_rfl) ?_
    (show some (Res.ret (.own (Nm.res 0) 0 ((bL (uintP n)).length + 1)), [((Nm.res 0), AObj.arr 5 1 0 ((bL (uintP n)).take (bL (uintP n)).length ++ [[.int .u8 (IntKind.u8.wrap ((uintQ n : Nat) : Int))]]))]) = _; rw [hBe, List.take_length]; simp only [List.length_append]; rfl)
end Go.Rx11