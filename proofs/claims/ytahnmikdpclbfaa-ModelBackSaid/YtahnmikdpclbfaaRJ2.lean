/- A part of the proof of the law: what functions of the program come to, walked by Rx, or plain facts on it. -/
import Derived.Test.YtahnmikdpclbfaaRxCfg11
import Derived.Test.YtahnmikdpclbfaaRDefs
section
open Go Go.Rx Go.Proofs Go.Rx11 Go.RxTree
set_option maxRecDepth 1000000
set_option maxHeartbeats 4000000
set_option linter.unusedVariables false
set_option linter.unusedSimpArgs false
namespace Go.Rx11
theorem var65 (s : List UInt8) (hs : s.length ≤ 140737488351232) (k : Nat) (hk : s.length + 2 < k) : icall Try.prog cfg k 65 [.d (.str s)] [] = some (.ret (.d (.bool (nameOk s && (!(s == [121, 101, 115]) && !(s == [110, 111]))))), []) := by
  obtain ⟨k, rfl⟩ : ∃ j, k = j + 1 := ⟨k - 1, by omega⟩
  rw [icall_body rfl Try.func65]
  obtain ⟨lp, hlp⟩ : ∃ lp, lp = lpOf Try.prog cfg (icall Try.prog cfg k) Try.f65.ntmps 65 k (([] : Hp).map (·.1)) := ⟨_, rfl⟩
  rw [← hlp]
  conv => lhs; whnf
  refine nextK_b (packName_w s (by unfold lim; omega) k (by omega)) (fun h1 => ?_) (fun h1 => ?_)
  · conv => lhs; whnf
    refine iteK_not ?_
    conv => lhs; whnf
    refine iteK_beq (fun h2 => ?_) (fun h2 => ?_)
    · obtain rfl : s = [(121 : UInt8), (101 : UInt8), (115 : UInt8)] := h2
      conv => lhs; whnf
      refine Eq.trans (b := some (Res.ret (AV.d (D.bool false)), [])) (by kernel_rfl) ?_
      exact ret_b (by rw [beq_t (by first | rfl | assumption)]; simp)
    · rw [beq_f h2]
      conv => lhs; whnf
      refine Eq.trans (b := some (Res.ret (AV.d (D.bool !s == (ByteArray.mk #[(110 : UInt8), (111 : UInt8)]).data.toList)), [])) (by kernel_rfl) ?_
      exact ret_b (by simp [*])
  · conv => lhs; whnf
    refine Eq.trans (b := some (Res.ret (AV.d (D.bool false)), [])) (by kernel_rfl) ?_
    exact ret_b (by simp [*])
/-- What a kind has: a name, a number, a condition; how many flows, at least, at most; and whether it is one. -/
def ruleK (k : Int) : AV := .tuple [.agg [.d (.bool (namedK k)), .d (.bool (decide (k = 2))), .d (.bool (asksK k)), .d (.int .i64 (leastK k)), .d (.int .i64 (mostK k))], .d (.bool true)]
def noRule : AV := .tuple [.agg [.d (.bool false), .d (.bool false), .d (.bool false), .d (.int .i64 0), .d (.int .i64 0)], .d (.bool false)]
theorem of64 (x : Int) (h : 1 ≤ x ∧ x ≤ 9) (k : Nat) (hk : 0 < k) : icall Try.prog cfg k 64 [.d (.int .i64 x)] [] = some (.ret (ruleK x), []) := by
  obtain ⟨k, rfl⟩ : ∃ j, k = j + 1 := ⟨k - 1, by omega⟩
  rw [icall_body rfl Try.func64]
  obtain ⟨lp, hlp⟩ : ∃ lp, lp = lpOf Try.prog cfg (icall Try.prog cfg k) Try.f64.ntmps 64 k (([] : Hp).map (·.1)) := ⟨_, rfl⟩
  rw [← hlp]
  conv => lhs; whnf
  refine iteK_beq (fun h1 => ?_) (fun h1 => ?_)
  · obtain rfl : x = (1 : Int) := h1
    conv => lhs; whnf
    refine Eq.trans (b := some (Res.ret (AV.tuple [AV.agg [AV.d (D.bool false), AV.d (D.bool false), AV.d (D.bool false), AV.d (D.int IntKind.i64 (1 : Int)), AV.d (D.int IntKind.i64 (1 : Int))], AV.d (D.bool true)]), [])) (by kernel_rfl) ?_
    rfl
  · rw [beq_f h1]
    conv => lhs; whnf
    refine iteK_beq (fun h2 => ?_) (fun h2 => ?_)
    · obtain rfl : x = (5 : Int) := h2
      conv => lhs; whnf
      refine Eq.trans (b := some (Res.ret (AV.tuple [AV.agg [AV.d (D.bool false), AV.d (D.bool false), AV.d (D.bool false), AV.d (D.int IntKind.i64 (1 : Int)), AV.d (D.int IntKind.i64 (1 : Int))], AV.d (D.bool true)]), [])) (by kernel_rfl) ?_
      rfl
    · rw [beq_f h2]
      conv => lhs; whnf
      refine iteK_beq (fun h3 => ?_) (fun h3 => ?_)
      · obtain rfl : x = (2 : Int) := h3
        conv => lhs; whnf
        refine Eq.trans (b := some (Res.ret (AV.tuple [AV.agg [AV.d (D.bool true), AV.d (D.bool true), AV.d (D.bool false), AV.d (D.int IntKind.i64 (1 : Int)), AV.d (D.int IntKind.i64 (1 : Int))], AV.d (D.bool true)]), [])) (by kernel_rfl) ?_
        rfl
      · rw [beq_f h3]
        conv => lhs; whnf
        refine iteK_beq (fun h4 => ?_) (fun h4 => ?_)
        · obtain rfl : x = (3 : Int) := h4
          conv => lhs; whnf
          refine Eq.trans (b := some (Res.ret (AV.tuple [AV.agg [AV.d (D.bool false), AV.d (D.bool false), AV.d (D.bool false), AV.d (D.int IntKind.i64 (1 : Int)), AV.d (D.int IntKind.i64 (16 : Int))], AV.d (D.bool true)]), [])) (by kernel_rfl) ?_
          rfl
        · rw [beq_f h4]
          conv => lhs; whnf
          refine iteK_beq (fun h5 => ?_) (fun h5 => ?_)
          · obtain rfl : x = (4 : Int) := h5
            conv => lhs; whnf
            refine Eq.trans (b := some (Res.ret (AV.tuple [AV.agg [AV.d (D.bool false), AV.d (D.bool false), AV.d (D.bool false), AV.d (D.int IntKind.i64 (2 : Int)), AV.d (D.int IntKind.i64 (16 : Int))], AV.d (D.bool true)]), [])) (by kernel_rfl) ?_
            rfl
          · rw [beq_f h5]
            conv => lhs; whnf
            refine iteK_beq (fun h6 => ?_) (fun h6 => ?_)
            · obtain rfl : x = (6 : Int) := h6
              conv => lhs; whnf
              refine Eq.trans (b := some (Res.ret (AV.tuple [AV.agg [AV.d (D.bool true), AV.d (D.bool false), AV.d (D.bool true), AV.d (D.int IntKind.i64 (1 : Int)), AV.d (D.int IntKind.i64 (1 : Int))], AV.d (D.bool true)]), [])) (by kernel_rfl) ?_
              rfl
            · rw [beq_f h6]
              conv => lhs; whnf
              refine iteK_beq (fun h7 => ?_) (fun h7 => ?_)
              · obtain rfl : x = (9 : Int) := h7
                conv => lhs; whnf
                refine Eq.trans (b := some (Res.ret (AV.tuple [AV.agg [AV.d (D.bool true), AV.d (D.bool false), AV.d (D.bool true), AV.d (D.int IntKind.i64 (1 : Int)), AV.d (D.int IntKind.i64 (1 : Int))], AV.d (D.bool true)]), [])) (by kernel_rfl) ?_
                rfl
              · rw [beq_f h7]
                conv => lhs; whnf
                refine iteK_beq (fun h8 => ?_) (fun h8 => ?_)
                · obtain rfl : x = (7 : Int) := h8
                  conv => lhs; whnf
                  refine Eq.trans (b := some (Res.ret (AV.tuple [AV.agg [AV.d (D.bool false), AV.d (D.bool false), AV.d (D.bool true), AV.d (D.int IntKind.i64 (1 : Int)), AV.d (D.int IntKind.i64 (1 : Int))], AV.d (D.bool true)]), [])) (by kernel_rfl) ?_
                  rfl
                · rw [beq_f h8]
                  conv => lhs; whnf
                  refine iteK_beq (fun h9 => ?_) (fun h9 => ?_)
                  · obtain rfl : x = (8 : Int) := h9
                    conv => lhs; whnf
                    refine Eq.trans (b := some (Res.ret (AV.tuple [AV.agg [AV.d (D.bool false), AV.d (D.bool false), AV.d (D.bool false), AV.d (D.int IntKind.i64 (0 : Int)), AV.d (D.int IntKind.i64 (0 : Int))], AV.d (D.bool true)]), [])) (by kernel_rfl) ?_
                    rfl
                  · rw [beq_f h9]
                    (exfalso; omega)
theorem of64n (x : Int) (h : ¬(1 ≤ x ∧ x ≤ 9)) (k : Nat) (hk : 0 < k) : icall Try.prog cfg k 64 [.d (.int .i64 x)] [] = some (.ret noRule, []) := by
  obtain ⟨k, rfl⟩ : ∃ j, k = j + 1 := ⟨k - 1, by omega⟩
  rw [icall_body rfl Try.func64]
  obtain ⟨lp, hlp⟩ : ∃ lp, lp = lpOf Try.prog cfg (icall Try.prog cfg k) Try.f64.ntmps 64 k (([] : Hp).map (·.1)) := ⟨_, rfl⟩
  rw [← hlp]
  conv => lhs; whnf
  refine iteK_beq (fun h1 => ?_) (fun h1 => ?_)
  · obtain rfl : x = (1 : Int) := h1
    (exfalso; omega)
  · rw [beq_f h1]
    conv => lhs; whnf
    refine iteK_beq (fun h2 => ?_) (fun h2 => ?_)
    · obtain rfl : x = (5 : Int) := h2
      (exfalso; omega)
    · rw [beq_f h2]
      conv => lhs; whnf
      refine iteK_beq (fun h3 => ?_) (fun h3 => ?_)
      · obtain rfl : x = (2 : Int) := h3
        (exfalso; omega)
      · rw [beq_f h3]
        conv => lhs; whnf
        refine iteK_beq (fun h4 => ?_) (fun h4 => ?_)
        · obtain rfl : x = (3 : Int) := h4
          (exfalso; omega)
        · rw [beq_f h4]
          conv => lhs; whnf
          refine iteK_beq (fun h5 => ?_) (fun h5 => ?_)
          · obtain rfl : x = (4 : Int) := h5
            (exfalso; omega)
          · rw [beq_f h5]
            conv => lhs; whnf
            refine iteK_beq (fun h6 => ?_) (fun h6 => ?_)
            · obtain rfl : x = (6 : Int) := h6
              (exfalso; omega)
            · rw [beq_f h6]
              conv => lhs; whnf
              refine iteK_beq (fun h7 => ?_) (fun h7 => ?_)
              · obtain rfl : x = (9 : Int) := h7
                (exfalso; omega)
              · rw [beq_f h7]
                conv => lhs; whnf
                refine iteK_beq (fun h8 => ?_) (fun h8 => ?_)
                · obtain rfl : x = (7 : Int) := h8
                  (exfalso; omega)
                · rw [beq_f h8]
                  conv => lhs; whnf
                  refine iteK_beq (fun h9 => ?_) (fun h9 => ?_)
                  · obtain rfl : x = (8 : Int) := h9
                    (exfalso; omega)
                  · rw [beq_f h9]
                    conv => lhs; whnf
                    refine Eq.trans (b := some (Res.ret (AV.tuple [AV.agg [AV.d (D.bool false), AV.d (D.bool false), AV.d (D.bool false), AV.d (D.int IntKind.i64 (0 : Int)), AV.d (D.int IntKind.i64 (0 : Int))], AV.d (D.bool false)]), [])) (by kernel_rfl) ?_
                    rfl
theorem named67 (x : Int) (k : Nat) (hk : 0 < k) : icall Try.prog cfg k 67 [.d (.int .i64 x)] [] = some (.ret (.d (.bool (namedK x))), []) := by
  obtain ⟨k, rfl⟩ : ∃ j, k = j + 1 := ⟨k - 1, by omega⟩
  rw [icall_body rfl Try.func67]
  obtain ⟨lp, hlp⟩ : ∃ lp, lp = lpOf Try.prog cfg (icall Try.prog cfg k) Try.f67.ntmps 67 k (([] : Hp).map (·.1)) := ⟨_, rfl⟩
  rw [← hlp]
  conv => lhs; whnf
  refine iteK_beq (fun h1 => ?_) (fun h1 => ?_)
  · obtain rfl : x = (2 : Int) := h1
    conv => lhs; whnf
    refine Eq.trans (b := some (Res.ret (AV.d (D.bool true)), [])) (by kernel_rfl) ?_
    rfl
  · rw [beq_f h1]
    conv => lhs; whnf
    refine iteK_beq (fun h2 => ?_) (fun h2 => ?_)
    · obtain rfl : x = (6 : Int) := h2
      conv => lhs; whnf
      refine Eq.trans (b := some (Res.ret (AV.d (D.bool true)), [])) (by kernel_rfl) ?_
      rfl
    · rw [beq_f h2]
      conv => lhs; whnf
      refine Eq.trans (b := some (Res.ret (AV.d (D.bool (x == (9 : Int)))), [])) (by kernel_rfl) ?_
      exact ret_b (by unfold namedK; by_cases h : x = 9; (rw [beq_t h, dec_t (by omega)]); (rw [beq_f h, dec_f (by omega)]))
theorem asks69 (x : Int) (k : Nat) (hk : 0 < k) : icall Try.prog cfg k 69 [.d (.int .i64 x)] [] = some (.ret (.d (.bool (asksK x))), []) := by
  obtain ⟨k, rfl⟩ : ∃ j, k = j + 1 := ⟨k - 1, by omega⟩
  rw [icall_body rfl Try.func69]
  obtain ⟨lp, hlp⟩ : ∃ lp, lp = lpOf Try.prog cfg (icall Try.prog cfg k) Try.f69.ntmps 69 k (([] : Hp).map (·.1)) := ⟨_, rfl⟩
  rw [← hlp]
  conv => lhs; whnf
  refine iteK_beq (fun h1 => ?_) (fun h1 => ?_)
  · obtain rfl : x = (6 : Int) := h1
    conv => lhs; whnf
    refine Eq.trans (b := some (Res.ret (AV.d (D.bool true)), [])) (by kernel_rfl) ?_
    rfl
  · rw [beq_f h1]
    conv => lhs; whnf
    refine iteK_beq (fun h2 => ?_) (fun h2 => ?_)
    · obtain rfl : x = (7 : Int) := h2
      conv => lhs; whnf
      refine Eq.trans (b := some (Res.ret (AV.d (D.bool true)), [])) (by kernel_rfl) ?_
      rfl
    · rw [beq_f h2]
      conv => lhs; whnf
      refine Eq.trans (b := some (Res.ret (AV.d (D.bool (x == (9 : Int)))), [])) (by kernel_rfl) ?_
      exact ret_b (by unfold asksK; by_cases h : x = 9; (rw [beq_t h, dec_t (by omega)]); (rw [beq_f h, dec_f (by omega)]))
theorem numb68 (x : Int) (k : Nat) (hk : 0 < k) : icall Try.prog cfg k 68 [.d (.int .i64 x)] [] = some (.ret (.d (.bool (x == 2))), []) := by
  obtain ⟨k, rfl⟩ : ∃ j, k = j + 1 := ⟨k - 1, by omega⟩
  rw [icall_body rfl Try.func68]
  obtain ⟨lp, hlp⟩ : ∃ lp, lp = lpOf Try.prog cfg (icall Try.prog cfg k) Try.f68.ntmps 68 k (([] : Hp).map (·.1)) := ⟨_, rfl⟩
  rw [← hlp]
  conv => lhs; whnf
  refine Eq.trans (b := some (Res.ret (AV.d (D.bool (x == (2 : Int)))), [])) (by kernel_rfl) ?_
  rfl
theorem ways70 (x : Int) (k : Nat) (hk : 0 < k) : icall Try.prog cfg k 70 [.d (.int .i64 x)] [] = some (.ret (.tuple [.d (.int .i64 (leastK x)), .d (.int .i64 (mostK x))]), []) := by
  obtain ⟨k, rfl⟩ : ∃ j, k = j + 1 := ⟨k - 1, by omega⟩
  rw [icall_body rfl Try.func70]
  obtain ⟨lp, hlp⟩ : ∃ lp, lp = lpOf Try.prog cfg (icall Try.prog cfg k) Try.f70.ntmps 70 k (([] : Hp).map (·.1)) := ⟨_, rfl⟩
  rw [← hlp]
  conv => lhs; whnf
  refine iteK_beq (fun h1 => ?_) (fun h1 => ?_)
  · obtain rfl : x = (3 : Int) := h1
    conv => lhs; whnf
    refine Eq.trans (b := some (Res.ret (AV.tuple [AV.d (D.int IntKind.i64 (1 : Int)), AV.d (D.int IntKind.i64 (16 : Int))]), [])) (by kernel_rfl) ?_
    rfl
  · rw [beq_f h1]
    conv => lhs; whnf
    refine iteK_beq (fun h2 => ?_) (fun h2 => ?_)
    · obtain rfl : x = (4 : Int) := h2
      conv => lhs; whnf
      refine Eq.trans (b := some (Res.ret (AV.tuple [AV.d (D.int IntKind.i64 (2 : Int)), AV.d (D.int IntKind.i64 (16 : Int))]), [])) (by kernel_rfl) ?_
      rfl
    · rw [beq_f h2]
      conv => lhs; whnf
      refine iteK_beq (fun h3 => ?_) (fun h3 => ?_)
      · obtain rfl : x = (8 : Int) := h3
        conv => lhs; whnf
        refine Eq.trans (b := some (Res.ret (AV.tuple [AV.d (D.int IntKind.i64 (0 : Int)), AV.d (D.int IntKind.i64 (0 : Int))]), [])) (by kernel_rfl) ?_
        rfl
      · rw [beq_f h3]
        conv => lhs; whnf
        refine Eq.trans (b := some (Res.ret (AV.tuple [AV.d (D.int IntKind.i64 (1 : Int)), AV.d (D.int IntKind.i64 (1 : Int))]), [])) (by kernel_rfl) ?_
        (simp [leastK, mostK, *]; done)
end Go.Rx11
end
section
open Go Go.Rx Go.Proofs Go.Rx11 Go.RxTree
set_option maxRecDepth 1000000
set_option maxHeartbeats 4000000
set_option linter.unusedVariables false
set_option linter.unusedSimpArgs false
namespace Go.Rx11
theorem fields31_1 (s : List UInt8) (n : Int) (a : List T) (o : List FlowT) (hs : s.length ≤ 140737488351232) (ha : SmL a) (hok : OkL a) (k : Nat) (hk : s.length + wtL a + 8 < k) :
    icall Try.prog cfg k 31 [.agg [.d (.int .i64 1), .d (.str s), .d (.int .i64 n), .d (.list (cellsL a)), .d (.list (o.map FlowT.cells))]] [] = some (.ret (.d (.int .i64 (fieldsS ⟨1, s, n, a, o⟩))), []) := by
  obtain ⟨k, rfl⟩ : ∃ j, k = j + 1 := ⟨k - 1, by omega⟩
  have hl := cellsL_len a
  have hl2 : (o.map FlowT.cells).length = o.length := List.length_map ..
  obtain ⟨y, hy, hy0⟩ := arg_first a
  have hwl := wtL_len a
  have hc : a.length ≠ 0 → icall Try.prog cfg k 66 [y.av, .d (.bool false)] [] = some (.ret (.d (.int .i64 (typedS y false))), []) := fun h => typed66 y false (SmL_mem ha (List.mem_of_getElem? (hy h).1)) (OkL_mem hok (List.mem_of_getElem? (hy h).1)) k (by have := wtL_mem a y (List.mem_of_getElem? (hy h).1); omega)
  have ea : asksK 1 = false := rfl
  have el : leastK 1 = 1 := rfl
  have em : mostK 1 = 1 := rfl
  rw [icall_body rfl Try.func31]
  obtain ⟨lp, hlp⟩ : ∃ lp, lp = lpOf Try.prog cfg (icall Try.prog cfg k) Try.f31.ntmps 31 k (([] : Hp).map (·.1)) := ⟨_, rfl⟩
  rw [← hlp]
  conv => lhs; whnf
  refine nextK_of (of64 1 (by omega) k (by omega)) ?_
  conv => lhs; whnf
  refine iteK_not ?_
  conv => lhs; whnf
  refine iteK_beq (fun h1 => ?_) (fun h1 => ?_)
  · obtain rfl : s = [] := h1
    conv => lhs; whnf
    refine iteK_dec (fun h2 => ?_) (fun h2 => ?_)
    · rw [dec_t h2]
      conv => lhs; whnf
      refine Eq.trans (b := some (Res.ret (AV.d (D.int IntKind.i64 (2 : Int))), [])) (by kernel_rfl) ?_
      exact ret_i (F3 (by omega) (badN_1 rfl (by first | rfl | assumption)) (by omega)).symm
    · rw [dec_f h2]
      conv => lhs; whnf
      refine iteK_dec (fun h3 => ?_) (fun h3 => ?_)
      · rw [dec_t h3]
        conv => lhs; whnf
        refine Eq.trans (b := some (Res.ret (AV.d (D.int IntKind.i64 (2 : Int))), [])) (by kernel_rfl) ?_
        exact ret_i (F3 (by omega) (badN_1 rfl (by first | rfl | assumption)) (by omega)).symm
      · rw [dec_f h3]
        conv => lhs; whnf
        refine iteK_bne (fun h4 => ?_) (fun h4 => ?_)
        · rw [bne_t h4]
          conv => lhs; whnf
          refine Eq.trans (b := some (Res.ret (AV.d (D.int IntKind.i64 (2 : Int))), [])) (by kernel_rfl) ?_
          exact ret_i (F3 (by omega) (badN_1 rfl (by first | rfl | assumption)) (by omega)).symm
        · obtain rfl : n = (0 : Int) := h4
          conv => lhs; whnf
          refine iteK_not ?_
          conv => lhs; whnf
          refine iteK_beq (fun h5 => ?_) (fun h5 => ?_)
          · rw [beq_t h5]
            conv => lhs; whnf
            refine iteK_dec (fun h6 => ?_) (fun h6 => ?_)
            · rw [dec_t h6]
              conv => lhs; whnf
              refine Eq.trans (b := some (Res.ret (AV.d (D.int IntKind.i64 (1 : Int))), [])) (by kernel_rfl) ?_
              ((try simp only [ea, ab_1, ab_2, ab_3, ab_4] at *); exact ret_i (F4 (by omega) (badN_1 rfl (by first | rfl | assumption)) (by omega) (by show (a.length : Int) ≠ 0; omega)).symm)
            · rw [dec_f h6]
              conv => lhs; whnf
              refine iteK_dec (fun h7 => ?_) (fun h7 => ?_)
              · rw [dec_t h7]
                conv => lhs; whnf
                refine Eq.trans (b := some (Res.ret (AV.d (D.int IntKind.i64 (8 : Int))), [])) (by kernel_rfl) ?_
                ((try simp only [ea, ab_1, ab_2, ab_3, ab_4] at *); exact ret_i (F5 (by omega) (badN_1 rfl (by first | rfl | assumption)) (by omega) (by show (a.length : Int) = 0; omega) (by show (o.length : Int) < 1 ∨ (o.length : Int) > 1; omega)).symm)
              · rw [dec_f h7]
                conv => lhs; whnf
                refine iteK_dec (fun h8 => ?_) (fun h8 => ?_)
                · rw [dec_t h8]
                  conv => lhs; whnf
                  refine Eq.trans (b := some (Res.ret (AV.d (D.int IntKind.i64 (8 : Int))), [])) (by kernel_rfl) ?_
                  ((try simp only [ea, ab_1, ab_2, ab_3, ab_4] at *); exact ret_i (F5 (by omega) (badN_1 rfl (by first | rfl | assumption)) (by omega) (by show (a.length : Int) = 0; omega) (by show (o.length : Int) < 1 ∨ (o.length : Int) > 1; omega)).symm)
                · rw [dec_f h8]
                  conv => lhs; whnf
                  refine Eq.trans (b := some (Res.ret (AV.d (D.int IntKind.i64 (0 : Int))), [])) (by kernel_rfl) ?_
                  ((try simp only [ea, ab_1, ab_2, ab_3, ab_4] at *); exact ret_i ((F6 (by omega) (badN_1 rfl (by first | rfl | assumption)) (by omega) (by show (a.length : Int) = 0; omega) (by show ¬((o.length : Int) < 1 ∨ (o.length : Int) > 1); omega)).trans (hy0 (by omega))).symm)
          · rw [beq_f h5]
            conv => lhs; whnf
            refine Eq.trans (b := some (Res.ret (AV.d (D.int IntKind.i64 (1 : Int))), [])) (by kernel_rfl) ?_
            ((try simp only [ea, ab_1, ab_2, ab_3, ab_4] at *); exact ret_i (F4 (by omega) (badN_1 rfl (by first | rfl | assumption)) (by omega) (by show (a.length : Int) ≠ 0; omega)).symm)
  · rw [beq_f h1]
    conv => lhs; whnf
    refine Eq.trans (b := some (Res.ret (AV.d (D.int IntKind.i64 (1 : Int))), [])) (by kernel_rfl) ?_
    exact ret_i (F2 (by omega) (badN_2 rfl (by assumption))).symm
theorem fields31_2 (s : List UInt8) (n : Int) (a : List T) (o : List FlowT) (hs : s.length ≤ 140737488351232) (ha : SmL a) (hok : OkL a) (k : Nat) (hk : s.length + wtL a + 8 < k) :
    icall Try.prog cfg k 31 [.agg [.d (.int .i64 2), .d (.str s), .d (.int .i64 n), .d (.list (cellsL a)), .d (.list (o.map FlowT.cells))]] [] = some (.ret (.d (.int .i64 (fieldsS ⟨2, s, n, a, o⟩))), []) := by
  obtain ⟨k, rfl⟩ : ∃ j, k = j + 1 := ⟨k - 1, by omega⟩
  have hl := cellsL_len a
  have hl2 : (o.map FlowT.cells).length = o.length := List.length_map ..
  obtain ⟨y, hy, hy0⟩ := arg_first a
  have hwl := wtL_len a
  have hc : a.length ≠ 0 → icall Try.prog cfg k 66 [y.av, .d (.bool false)] [] = some (.ret (.d (.int .i64 (typedS y false))), []) := fun h => typed66 y false (SmL_mem ha (List.mem_of_getElem? (hy h).1)) (OkL_mem hok (List.mem_of_getElem? (hy h).1)) k (by have := wtL_mem a y (List.mem_of_getElem? (hy h).1); omega)
  have ea : asksK 2 = false := rfl
  have el : leastK 2 = 1 := rfl
  have em : mostK 2 = 1 := rfl
  rw [icall_body rfl Try.func31]
  obtain ⟨lp, hlp⟩ : ∃ lp, lp = lpOf Try.prog cfg (icall Try.prog cfg k) Try.f31.ntmps 31 k (([] : Hp).map (·.1)) := ⟨_, rfl⟩
  rw [← hlp]
  conv => lhs; whnf
  refine nextK_of (of64 2 (by omega) k (by omega)) ?_
  conv => lhs; whnf
  refine nextK_b (packName_w s (by unfold lim; omega) k (by omega)) (fun h1 => ?_) (fun h1 => ?_)
  · conv => lhs; whnf
    refine iteK_dec (fun h2 => ?_) (fun h2 => ?_)
    · rw [dec_t h2]
      conv => lhs; whnf
      refine Eq.trans (b := some (Res.ret (AV.d (D.int IntKind.i64 (2 : Int))), [])) (by kernel_rfl) ?_
      exact ret_i (F3 (by omega) (badN_4 rfl (by decide) (by assumption)) (by omega)).symm
    · rw [dec_f h2]
      conv => lhs; whnf
      refine iteK_dec (fun h3 => ?_) (fun h3 => ?_)
      · rw [dec_t h3]
        conv => lhs; whnf
        refine Eq.trans (b := some (Res.ret (AV.d (D.int IntKind.i64 (2 : Int))), [])) (by kernel_rfl) ?_
        exact ret_i (F3 (by omega) (badN_4 rfl (by decide) (by assumption)) (by omega)).symm
      · rw [dec_f h3]
        conv => lhs; whnf
        refine iteK_not ?_
        conv => lhs; whnf
        refine iteK_beq (fun h4 => ?_) (fun h4 => ?_)
        · rw [beq_t h4]
          conv => lhs; whnf
          refine iteK_dec (fun h5 => ?_) (fun h5 => ?_)
          · rw [dec_t h5]
            conv => lhs; whnf
            refine Eq.trans (b := some (Res.ret (AV.d (D.int IntKind.i64 (1 : Int))), [])) (by kernel_rfl) ?_
            ((try simp only [ea, ab_1, ab_2, ab_3, ab_4] at *); exact ret_i (F4 (by omega) (badN_4 rfl (by decide) (by assumption)) (by omega) (by show (a.length : Int) ≠ 0; omega)).symm)
          · rw [dec_f h5]
            conv => lhs; whnf
            refine iteK_dec (fun h6 => ?_) (fun h6 => ?_)
            · rw [dec_t h6]
              conv => lhs; whnf
              refine Eq.trans (b := some (Res.ret (AV.d (D.int IntKind.i64 (8 : Int))), [])) (by kernel_rfl) ?_
              ((try simp only [ea, ab_1, ab_2, ab_3, ab_4] at *); exact ret_i (F5 (by omega) (badN_4 rfl (by decide) (by assumption)) (by omega) (by show (a.length : Int) = 0; omega) (by show (o.length : Int) < 1 ∨ (o.length : Int) > 1; omega)).symm)
            · rw [dec_f h6]
              conv => lhs; whnf
              refine iteK_dec (fun h7 => ?_) (fun h7 => ?_)
              · rw [dec_t h7]
                conv => lhs; whnf
                refine Eq.trans (b := some (Res.ret (AV.d (D.int IntKind.i64 (8 : Int))), [])) (by kernel_rfl) ?_
                ((try simp only [ea, ab_1, ab_2, ab_3, ab_4] at *); exact ret_i (F5 (by omega) (badN_4 rfl (by decide) (by assumption)) (by omega) (by show (a.length : Int) = 0; omega) (by show (o.length : Int) < 1 ∨ (o.length : Int) > 1; omega)).symm)
              · rw [dec_f h7]
                conv => lhs; whnf
                refine Eq.trans (b := some (Res.ret (AV.d (D.int IntKind.i64 (0 : Int))), [])) (by kernel_rfl) ?_
                ((try simp only [ea, ab_1, ab_2, ab_3, ab_4] at *); exact ret_i ((F6 (by omega) (badN_4 rfl (by decide) (by assumption)) (by omega) (by show (a.length : Int) = 0; omega) (by show ¬((o.length : Int) < 1 ∨ (o.length : Int) > 1); omega)).trans (hy0 (by omega))).symm)
        · rw [beq_f h4]
          conv => lhs; whnf
          refine Eq.trans (b := some (Res.ret (AV.d (D.int IntKind.i64 (1 : Int))), [])) (by kernel_rfl) ?_
          ((try simp only [ea, ab_1, ab_2, ab_3, ab_4] at *); exact ret_i (F4 (by omega) (badN_4 rfl (by decide) (by assumption)) (by omega) (by show (a.length : Int) ≠ 0; omega)).symm)
  · conv => lhs; whnf
    refine Eq.trans (b := some (Res.ret (AV.d (D.int IntKind.i64 (1 : Int))), [])) (by kernel_rfl) ?_
    exact ret_i (F2 (by omega) (badN_3 rfl (by assumption))).symm
theorem fields31_3 (s : List UInt8) (n : Int) (a : List T) (o : List FlowT) (hs : s.length ≤ 140737488351232) (ha : SmL a) (hok : OkL a) (k : Nat) (hk : s.length + wtL a + 8 < k) :
    icall Try.prog cfg k 31 [.agg [.d (.int .i64 3), .d (.str s), .d (.int .i64 n), .d (.list (cellsL a)), .d (.list (o.map FlowT.cells))]] [] = some (.ret (.d (.int .i64 (fieldsS ⟨3, s, n, a, o⟩))), []) := by
  obtain ⟨k, rfl⟩ : ∃ j, k = j + 1 := ⟨k - 1, by omega⟩
  have hl := cellsL_len a
  have hl2 : (o.map FlowT.cells).length = o.length := List.length_map ..
  obtain ⟨y, hy, hy0⟩ := arg_first a
  have hwl := wtL_len a
  have hc : a.length ≠ 0 → icall Try.prog cfg k 66 [y.av, .d (.bool false)] [] = some (.ret (.d (.int .i64 (typedS y false))), []) := fun h => typed66 y false (SmL_mem ha (List.mem_of_getElem? (hy h).1)) (OkL_mem hok (List.mem_of_getElem? (hy h).1)) k (by have := wtL_mem a y (List.mem_of_getElem? (hy h).1); omega)
  have ea : asksK 3 = false := rfl
  have el : leastK 3 = 1 := rfl
  have em : mostK 3 = 16 := rfl
  rw [icall_body rfl Try.func31]
  obtain ⟨lp, hlp⟩ : ∃ lp, lp = lpOf Try.prog cfg (icall Try.prog cfg k) Try.f31.ntmps 31 k (([] : Hp).map (·.1)) := ⟨_, rfl⟩
  rw [← hlp]
  conv => lhs; whnf
  refine nextK_of (of64 3 (by omega) k (by omega)) ?_
  conv => lhs; whnf
  refine iteK_not ?_
  conv => lhs; whnf
  refine iteK_beq (fun h1 => ?_) (fun h1 => ?_)
  · obtain rfl : s = [] := h1
    conv => lhs; whnf
    refine iteK_dec (fun h2 => ?_) (fun h2 => ?_)
    · rw [dec_t h2]
      conv => lhs; whnf
      refine Eq.trans (b := some (Res.ret (AV.d (D.int IntKind.i64 (2 : Int))), [])) (by kernel_rfl) ?_
      exact ret_i (F3 (by omega) (badN_1 rfl (by first | rfl | assumption)) (by omega)).symm
    · rw [dec_f h2]
      conv => lhs; whnf
      refine iteK_dec (fun h3 => ?_) (fun h3 => ?_)
      · rw [dec_t h3]
        conv => lhs; whnf
        refine Eq.trans (b := some (Res.ret (AV.d (D.int IntKind.i64 (2 : Int))), [])) (by kernel_rfl) ?_
        exact ret_i (F3 (by omega) (badN_1 rfl (by first | rfl | assumption)) (by omega)).symm
      · rw [dec_f h3]
        conv => lhs; whnf
        refine iteK_bne (fun h4 => ?_) (fun h4 => ?_)
        · rw [bne_t h4]
          conv => lhs; whnf
          refine Eq.trans (b := some (Res.ret (AV.d (D.int IntKind.i64 (2 : Int))), [])) (by kernel_rfl) ?_
          exact ret_i (F3 (by omega) (badN_1 rfl (by first | rfl | assumption)) (by omega)).symm
        · obtain rfl : n = (0 : Int) := h4
          conv => lhs; whnf
          refine iteK_not ?_
          conv => lhs; whnf
          refine iteK_beq (fun h5 => ?_) (fun h5 => ?_)
          · rw [beq_t h5]
            conv => lhs; whnf
            refine iteK_dec (fun h6 => ?_) (fun h6 => ?_)
            · rw [dec_t h6]
              conv => lhs; whnf
              refine Eq.trans (b := some (Res.ret (AV.d (D.int IntKind.i64 (1 : Int))), [])) (by kernel_rfl) ?_
              ((try simp only [ea, ab_1, ab_2, ab_3, ab_4] at *); exact ret_i (F4 (by omega) (badN_1 rfl (by first | rfl | assumption)) (by omega) (by show (a.length : Int) ≠ 0; omega)).symm)
            · rw [dec_f h6]
              conv => lhs; whnf
              refine iteK_dec (fun h7 => ?_) (fun h7 => ?_)
              · rw [dec_t h7]
                conv => lhs; whnf
                refine Eq.trans (b := some (Res.ret (AV.d (D.int IntKind.i64 (8 : Int))), [])) (by kernel_rfl) ?_
                ((try simp only [ea, ab_1, ab_2, ab_3, ab_4] at *); exact ret_i (F5 (by omega) (badN_1 rfl (by first | rfl | assumption)) (by omega) (by show (a.length : Int) = 0; omega) (by show (o.length : Int) < 1 ∨ (o.length : Int) > 16; omega)).symm)
              · rw [dec_f h7]
                conv => lhs; whnf
                refine iteK_dec (fun h8 => ?_) (fun h8 => ?_)
                · rw [dec_t h8]
                  conv => lhs; whnf
                  refine Eq.trans (b := some (Res.ret (AV.d (D.int IntKind.i64 (8 : Int))), [])) (by kernel_rfl) ?_
                  ((try simp only [ea, ab_1, ab_2, ab_3, ab_4] at *); exact ret_i (F5 (by omega) (badN_1 rfl (by first | rfl | assumption)) (by omega) (by show (a.length : Int) = 0; omega) (by show (o.length : Int) < 1 ∨ (o.length : Int) > 16; omega)).symm)
                · rw [dec_f h8]
                  conv => lhs; whnf
                  refine Eq.trans (b := some (Res.ret (AV.d (D.int IntKind.i64 (0 : Int))), [])) (by kernel_rfl) ?_
                  ((try simp only [ea, ab_1, ab_2, ab_3, ab_4] at *); exact ret_i ((F6 (by omega) (badN_1 rfl (by first | rfl | assumption)) (by omega) (by show (a.length : Int) = 0; omega) (by show ¬((o.length : Int) < 1 ∨ (o.length : Int) > 16); omega)).trans (hy0 (by omega))).symm)
          · rw [beq_f h5]
            conv => lhs; whnf
            refine Eq.trans (b := some (Res.ret (AV.d (D.int IntKind.i64 (1 : Int))), [])) (by kernel_rfl) ?_
            ((try simp only [ea, ab_1, ab_2, ab_3, ab_4] at *); exact ret_i (F4 (by omega) (badN_1 rfl (by first | rfl | assumption)) (by omega) (by show (a.length : Int) ≠ 0; omega)).symm)
  · rw [beq_f h1]
    conv => lhs; whnf
    refine Eq.trans (b := some (Res.ret (AV.d (D.int IntKind.i64 (1 : Int))), [])) (by kernel_rfl) ?_
    exact ret_i (F2 (by omega) (badN_2 rfl (by assumption))).symm
theorem fields31_4 (s : List UInt8) (n : Int) (a : List T) (o : List FlowT) (hs : s.length ≤ 140737488351232) (ha : SmL a) (hok : OkL a) (k : Nat) (hk : s.length + wtL a + 8 < k) :
    icall Try.prog cfg k 31 [.agg [.d (.int .i64 4), .d (.str s), .d (.int .i64 n), .d (.list (cellsL a)), .d (.list (o.map FlowT.cells))]] [] = some (.ret (.d (.int .i64 (fieldsS ⟨4, s, n, a, o⟩))), []) := by
  obtain ⟨k, rfl⟩ : ∃ j, k = j + 1 := ⟨k - 1, by omega⟩
  have hl := cellsL_len a
  have hl2 : (o.map FlowT.cells).length = o.length := List.length_map ..
  obtain ⟨y, hy, hy0⟩ := arg_first a
  have hwl := wtL_len a
  have hc : a.length ≠ 0 → icall Try.prog cfg k 66 [y.av, .d (.bool false)] [] = some (.ret (.d (.int .i64 (typedS y false))), []) := fun h => typed66 y false (SmL_mem ha (List.mem_of_getElem? (hy h).1)) (OkL_mem hok (List.mem_of_getElem? (hy h).1)) k (by have := wtL_mem a y (List.mem_of_getElem? (hy h).1); omega)
  have ea : asksK 4 = false := rfl
  have el : leastK 4 = 2 := rfl
  have em : mostK 4 = 16 := rfl
  rw [icall_body rfl Try.func31]
  obtain ⟨lp, hlp⟩ : ∃ lp, lp = lpOf Try.prog cfg (icall Try.prog cfg k) Try.f31.ntmps 31 k (([] : Hp).map (·.1)) := ⟨_, rfl⟩
  rw [← hlp]
  conv => lhs; whnf
  refine nextK_of (of64 4 (by omega) k (by omega)) ?_
  conv => lhs; whnf
  refine iteK_not ?_
  conv => lhs; whnf
  refine iteK_beq (fun h1 => ?_) (fun h1 => ?_)
  · obtain rfl : s = [] := h1
    conv => lhs; whnf
    refine iteK_dec (fun h2 => ?_) (fun h2 => ?_)
    · rw [dec_t h2]
      conv => lhs; whnf
      refine Eq.trans (b := some (Res.ret (AV.d (D.int IntKind.i64 (2 : Int))), [])) (by kernel_rfl) ?_
      exact ret_i (F3 (by omega) (badN_1 rfl (by first | rfl | assumption)) (by omega)).symm
    · rw [dec_f h2]
      conv => lhs; whnf
      refine iteK_dec (fun h3 => ?_) (fun h3 => ?_)
      · rw [dec_t h3]
        conv => lhs; whnf
        refine Eq.trans (b := some (Res.ret (AV.d (D.int IntKind.i64 (2 : Int))), [])) (by kernel_rfl) ?_
        exact ret_i (F3 (by omega) (badN_1 rfl (by first | rfl | assumption)) (by omega)).symm
      · rw [dec_f h3]
        conv => lhs; whnf
        refine iteK_bne (fun h4 => ?_) (fun h4 => ?_)
        · rw [bne_t h4]
          conv => lhs; whnf
          refine Eq.trans (b := some (Res.ret (AV.d (D.int IntKind.i64 (2 : Int))), [])) (by kernel_rfl) ?_
          exact ret_i (F3 (by omega) (badN_1 rfl (by first | rfl | assumption)) (by omega)).symm
        · obtain rfl : n = (0 : Int) := h4
          conv => lhs; whnf
          refine iteK_not ?_
          conv => lhs; whnf
          refine iteK_beq (fun h5 => ?_) (fun h5 => ?_)
          · rw [beq_t h5]
            conv => lhs; whnf
            refine iteK_dec (fun h6 => ?_) (fun h6 => ?_)
            · rw [dec_t h6]
              conv => lhs; whnf
              refine Eq.trans (b := some (Res.ret (AV.d (D.int IntKind.i64 (1 : Int))), [])) (by kernel_rfl) ?_
              ((try simp only [ea, ab_1, ab_2, ab_3, ab_4] at *); exact ret_i (F4 (by omega) (badN_1 rfl (by first | rfl | assumption)) (by omega) (by show (a.length : Int) ≠ 0; omega)).symm)
            · rw [dec_f h6]
              conv => lhs; whnf
              refine iteK_dec (fun h7 => ?_) (fun h7 => ?_)
              · rw [dec_t h7]
                conv => lhs; whnf
                refine Eq.trans (b := some (Res.ret (AV.d (D.int IntKind.i64 (8 : Int))), [])) (by kernel_rfl) ?_
                ((try simp only [ea, ab_1, ab_2, ab_3, ab_4] at *); exact ret_i (F5 (by omega) (badN_1 rfl (by first | rfl | assumption)) (by omega) (by show (a.length : Int) = 0; omega) (by show (o.length : Int) < 2 ∨ (o.length : Int) > 16; omega)).symm)
              · rw [dec_f h7]
                conv => lhs; whnf
                refine iteK_dec (fun h8 => ?_) (fun h8 => ?_)
                · rw [dec_t h8]
                  conv => lhs; whnf
                  refine Eq.trans (b := some (Res.ret (AV.d (D.int IntKind.i64 (8 : Int))), [])) (by kernel_rfl) ?_
                  ((try simp only [ea, ab_1, ab_2, ab_3, ab_4] at *); exact ret_i (F5 (by omega) (badN_1 rfl (by first | rfl | assumption)) (by omega) (by show (a.length : Int) = 0; omega) (by show (o.length : Int) < 2 ∨ (o.length : Int) > 16; omega)).symm)
                · rw [dec_f h8]
                  conv => lhs; whnf
                  refine Eq.trans (b := some (Res.ret (AV.d (D.int IntKind.i64 (0 : Int))), [])) (by kernel_rfl) ?_
                  ((try simp only [ea, ab_1, ab_2, ab_3, ab_4] at *); exact ret_i ((F6 (by omega) (badN_1 rfl (by first | rfl | assumption)) (by omega) (by show (a.length : Int) = 0; omega) (by show ¬((o.length : Int) < 2 ∨ (o.length : Int) > 16); omega)).trans (hy0 (by omega))).symm)
          · rw [beq_f h5]
            conv => lhs; whnf
            refine Eq.trans (b := some (Res.ret (AV.d (D.int IntKind.i64 (1 : Int))), [])) (by kernel_rfl) ?_
            ((try simp only [ea, ab_1, ab_2, ab_3, ab_4] at *); exact ret_i (F4 (by omega) (badN_1 rfl (by first | rfl | assumption)) (by omega) (by show (a.length : Int) ≠ 0; omega)).symm)
  · rw [beq_f h1]
    conv => lhs; whnf
    refine Eq.trans (b := some (Res.ret (AV.d (D.int IntKind.i64 (1 : Int))), [])) (by kernel_rfl) ?_
    exact ret_i (F2 (by omega) (badN_2 rfl (by assumption))).symm
theorem fields31_5 (s : List UInt8) (n : Int) (a : List T) (o : List FlowT) (hs : s.length ≤ 140737488351232) (ha : SmL a) (hok : OkL a) (k : Nat) (hk : s.length + wtL a + 8 < k) :
    icall Try.prog cfg k 31 [.agg [.d (.int .i64 5), .d (.str s), .d (.int .i64 n), .d (.list (cellsL a)), .d (.list (o.map FlowT.cells))]] [] = some (.ret (.d (.int .i64 (fieldsS ⟨5, s, n, a, o⟩))), []) := by
  obtain ⟨k, rfl⟩ : ∃ j, k = j + 1 := ⟨k - 1, by omega⟩
  have hl := cellsL_len a
  have hl2 : (o.map FlowT.cells).length = o.length := List.length_map ..
  obtain ⟨y, hy, hy0⟩ := arg_first a
  have hwl := wtL_len a
  have hc : a.length ≠ 0 → icall Try.prog cfg k 66 [y.av, .d (.bool false)] [] = some (.ret (.d (.int .i64 (typedS y false))), []) := fun h => typed66 y false (SmL_mem ha (List.mem_of_getElem? (hy h).1)) (OkL_mem hok (List.mem_of_getElem? (hy h).1)) k (by have := wtL_mem a y (List.mem_of_getElem? (hy h).1); omega)
  have ea : asksK 5 = false := rfl
  have el : leastK 5 = 1 := rfl
  have em : mostK 5 = 1 := rfl
  rw [icall_body rfl Try.func31]
  obtain ⟨lp, hlp⟩ : ∃ lp, lp = lpOf Try.prog cfg (icall Try.prog cfg k) Try.f31.ntmps 31 k (([] : Hp).map (·.1)) := ⟨_, rfl⟩
  rw [← hlp]
  conv => lhs; whnf
  refine nextK_of (of64 5 (by omega) k (by omega)) ?_
  conv => lhs; whnf
  refine iteK_not ?_
  conv => lhs; whnf
  refine iteK_beq (fun h1 => ?_) (fun h1 => ?_)
  · obtain rfl : s = [] := h1
    conv => lhs; whnf
    refine iteK_dec (fun h2 => ?_) (fun h2 => ?_)
    · rw [dec_t h2]
      conv => lhs; whnf
      refine Eq.trans (b := some (Res.ret (AV.d (D.int IntKind.i64 (2 : Int))), [])) (by kernel_rfl) ?_
      exact ret_i (F3 (by omega) (badN_1 rfl (by first | rfl | assumption)) (by omega)).symm
    · rw [dec_f h2]
      conv => lhs; whnf
      refine iteK_dec (fun h3 => ?_) (fun h3 => ?_)
      · rw [dec_t h3]
        conv => lhs; whnf
        refine Eq.trans (b := some (Res.ret (AV.d (D.int IntKind.i64 (2 : Int))), [])) (by kernel_rfl) ?_
        exact ret_i (F3 (by omega) (badN_1 rfl (by first | rfl | assumption)) (by omega)).symm
      · rw [dec_f h3]
        conv => lhs; whnf
        refine iteK_bne (fun h4 => ?_) (fun h4 => ?_)
        · rw [bne_t h4]
          conv => lhs; whnf
          refine Eq.trans (b := some (Res.ret (AV.d (D.int IntKind.i64 (2 : Int))), [])) (by kernel_rfl) ?_
          exact ret_i (F3 (by omega) (badN_1 rfl (by first | rfl | assumption)) (by omega)).symm
        · obtain rfl : n = (0 : Int) := h4
          conv => lhs; whnf
          refine iteK_not ?_
          conv => lhs; whnf
          refine iteK_beq (fun h5 => ?_) (fun h5 => ?_)
          · rw [beq_t h5]
            conv => lhs; whnf
            refine iteK_dec (fun h6 => ?_) (fun h6 => ?_)
            · rw [dec_t h6]
              conv => lhs; whnf
              refine Eq.trans (b := some (Res.ret (AV.d (D.int IntKind.i64 (1 : Int))), [])) (by kernel_rfl) ?_
              ((try simp only [ea, ab_1, ab_2, ab_3, ab_4] at *); exact ret_i (F4 (by omega) (badN_1 rfl (by first | rfl | assumption)) (by omega) (by show (a.length : Int) ≠ 0; omega)).symm)
            · rw [dec_f h6]
              conv => lhs; whnf
              refine iteK_dec (fun h7 => ?_) (fun h7 => ?_)
              · rw [dec_t h7]
                conv => lhs; whnf
                refine Eq.trans (b := some (Res.ret (AV.d (D.int IntKind.i64 (8 : Int))), [])) (by kernel_rfl) ?_
                ((try simp only [ea, ab_1, ab_2, ab_3, ab_4] at *); exact ret_i (F5 (by omega) (badN_1 rfl (by first | rfl | assumption)) (by omega) (by show (a.length : Int) = 0; omega) (by show (o.length : Int) < 1 ∨ (o.length : Int) > 1; omega)).symm)
              · rw [dec_f h7]
                conv => lhs; whnf
                refine iteK_dec (fun h8 => ?_) (fun h8 => ?_)
                · rw [dec_t h8]
                  conv => lhs; whnf
                  refine Eq.trans (b := some (Res.ret (AV.d (D.int IntKind.i64 (8 : Int))), [])) (by kernel_rfl) ?_
                  ((try simp only [ea, ab_1, ab_2, ab_3, ab_4] at *); exact ret_i (F5 (by omega) (badN_1 rfl (by first | rfl | assumption)) (by omega) (by show (a.length : Int) = 0; omega) (by show (o.length : Int) < 1 ∨ (o.length : Int) > 1; omega)).symm)
                · rw [dec_f h8]
                  conv => lhs; whnf
                  refine Eq.trans (b := some (Res.ret (AV.d (D.int IntKind.i64 (0 : Int))), [])) (by kernel_rfl) ?_
                  ((try simp only [ea, ab_1, ab_2, ab_3, ab_4] at *); exact ret_i ((F6 (by omega) (badN_1 rfl (by first | rfl | assumption)) (by omega) (by show (a.length : Int) = 0; omega) (by show ¬((o.length : Int) < 1 ∨ (o.length : Int) > 1); omega)).trans (hy0 (by omega))).symm)
          · rw [beq_f h5]
            conv => lhs; whnf
            refine Eq.trans (b := some (Res.ret (AV.d (D.int IntKind.i64 (1 : Int))), [])) (by kernel_rfl) ?_
            ((try simp only [ea, ab_1, ab_2, ab_3, ab_4] at *); exact ret_i (F4 (by omega) (badN_1 rfl (by first | rfl | assumption)) (by omega) (by show (a.length : Int) ≠ 0; omega)).symm)
  · rw [beq_f h1]
    conv => lhs; whnf
    refine Eq.trans (b := some (Res.ret (AV.d (D.int IntKind.i64 (1 : Int))), [])) (by kernel_rfl) ?_
    exact ret_i (F2 (by omega) (badN_2 rfl (by assumption))).symm
theorem fields31_6 (s : List UInt8) (n : Int) (a : List T) (o : List FlowT) (hs : s.length ≤ 140737488351232) (ha : SmL a) (hok : OkL a) (k : Nat) (hk : s.length + wtL a + 8 < k) :
    icall Try.prog cfg k 31 [.agg [.d (.int .i64 6), .d (.str s), .d (.int .i64 n), .d (.list (cellsL a)), .d (.list (o.map FlowT.cells))]] [] = some (.ret (.d (.int .i64 (fieldsS ⟨6, s, n, a, o⟩))), []) := by
  obtain ⟨k, rfl⟩ : ∃ j, k = j + 1 := ⟨k - 1, by omega⟩
  have hl := cellsL_len a
  have hl2 : (o.map FlowT.cells).length = o.length := List.length_map ..
  obtain ⟨y, hy, hy0⟩ := arg_first a
  have hwl := wtL_len a
  have hc : a.length ≠ 0 → icall Try.prog cfg k 66 [y.av, .d (.bool false)] [] = some (.ret (.d (.int .i64 (typedS y false))), []) := fun h => typed66 y false (SmL_mem ha (List.mem_of_getElem? (hy h).1)) (OkL_mem hok (List.mem_of_getElem? (hy h).1)) k (by have := wtL_mem a y (List.mem_of_getElem? (hy h).1); omega)
  have ea : asksK 6 = true := rfl
  have el : leastK 6 = 1 := rfl
  have em : mostK 6 = 1 := rfl
  rw [icall_body rfl Try.func31]
  obtain ⟨lp, hlp⟩ : ∃ lp, lp = lpOf Try.prog cfg (icall Try.prog cfg k) Try.f31.ntmps 31 k (([] : Hp).map (·.1)) := ⟨_, rfl⟩
  rw [← hlp]
  conv => lhs; whnf
  refine nextK_of (of64 6 (by omega) k (by omega)) ?_
  conv => lhs; whnf
  refine nextK_b (packName_w s (by unfold lim; omega) k (by omega)) (fun h1 => ?_) (fun h1 => ?_)
  · conv => lhs; whnf
    refine iteK_dec (fun h2 => ?_) (fun h2 => ?_)
    · rw [dec_t h2]
      conv => lhs; whnf
      refine Eq.trans (b := some (Res.ret (AV.d (D.int IntKind.i64 (2 : Int))), [])) (by kernel_rfl) ?_
      exact ret_i (F3 (by omega) (badN_4 rfl (by decide) (by assumption)) (by omega)).symm
    · rw [dec_f h2]
      conv => lhs; whnf
      refine iteK_dec (fun h3 => ?_) (fun h3 => ?_)
      · rw [dec_t h3]
        conv => lhs; whnf
        refine Eq.trans (b := some (Res.ret (AV.d (D.int IntKind.i64 (2 : Int))), [])) (by kernel_rfl) ?_
        exact ret_i (F3 (by omega) (badN_4 rfl (by decide) (by assumption)) (by omega)).symm
      · rw [dec_f h3]
        conv => lhs; whnf
        refine iteK_bne (fun h4 => ?_) (fun h4 => ?_)
        · rw [bne_t h4]
          conv => lhs; whnf
          refine Eq.trans (b := some (Res.ret (AV.d (D.int IntKind.i64 (2 : Int))), [])) (by kernel_rfl) ?_
          exact ret_i (F3 (by omega) (badN_4 rfl (by decide) (by assumption)) (by omega)).symm
        · obtain rfl : n = (0 : Int) := h4
          conv => lhs; whnf
          refine iteK_not ?_
          conv => lhs; whnf
          refine iteK_beq (fun h5 => ?_) (fun h5 => ?_)
          · rw [beq_t h5]
            conv => lhs; whnf
            refine iteK_dec (fun h6 => ?_) (fun h6 => ?_)
            · rw [dec_t h6]
              conv => lhs; whnf
              refine Eq.trans (b := some (Res.ret (AV.d (D.int IntKind.i64 (1 : Int))), [])) (by kernel_rfl) ?_
              ((try simp only [ea, ab_1, ab_2, ab_3, ab_4] at *); omega)
            · rw [dec_f h6]
              conv => lhs; whnf
              refine iteK_dec (fun h7 => ?_) (fun h7 => ?_)
              · rw [dec_t h7]
                conv => lhs; whnf
                refine Eq.trans (b := some (Res.ret (AV.d (D.int IntKind.i64 (8 : Int))), [])) (by kernel_rfl) ?_
                ((try simp only [ea, ab_1, ab_2, ab_3, ab_4] at *); exact ret_i (F5 (by omega) (badN_4 rfl (by decide) (by assumption)) (by omega) (by show (a.length : Int) = 1; omega) (by show (o.length : Int) < 1 ∨ (o.length : Int) > 1; omega)).symm)
              · rw [dec_f h7]
                conv => lhs; whnf
                refine iteK_dec (fun h8 => ?_) (fun h8 => ?_)
                · rw [dec_t h8]
                  conv => lhs; whnf
                  refine Eq.trans (b := some (Res.ret (AV.d (D.int IntKind.i64 (8 : Int))), [])) (by kernel_rfl) ?_
                  ((try simp only [ea, ab_1, ab_2, ab_3, ab_4] at *); exact ret_i (F5 (by omega) (badN_4 rfl (by decide) (by assumption)) (by omega) (by show (a.length : Int) = 1; omega) (by show (o.length : Int) < 1 ∨ (o.length : Int) > 1; omega)).symm)
                · rw [dec_f h8]
                  conv => lhs; whnf
                  refine nextK_of (aop_ix rfl rfl rfl rfl (ixL_at' (n := 0) rfl (cellsL_get _ _ _ (hy (by (try simp only [ea, ab_1, ab_2, ab_3, ab_4] at *); omega)).1) rfl)) ?_
                  conv => lhs; whnf
                  refine nextK_of (hc (by (try simp only [ea, ab_1, ab_2, ab_3, ab_4] at *); omega)) ?_
                  conv => lhs; whnf
                  refine Eq.trans (b := some (Res.ret (AV.d (D.int IntKind.i64 (typedS y false))), [])) (by kernel_rfl) ?_
                  ((try simp only [ea, ab_1, ab_2, ab_3, ab_4] at *); exact ret_i ((F6 (by omega) (badN_4 rfl (by decide) (by assumption)) (by omega) (by show (a.length : Int) = 1; omega) (by show ¬((o.length : Int) < 1 ∨ (o.length : Int) > 1); omega)).trans (hy (by omega)).2).symm)
          · rw [beq_f h5]
            conv => lhs; whnf
            refine Eq.trans (b := some (Res.ret (AV.d (D.int IntKind.i64 (1 : Int))), [])) (by kernel_rfl) ?_
            ((try simp only [ea, ab_1, ab_2, ab_3, ab_4] at *); exact ret_i (F4 (by omega) (badN_4 rfl (by decide) (by assumption)) (by omega) (by show (a.length : Int) ≠ 1; omega)).symm)
  · conv => lhs; whnf
    refine Eq.trans (b := some (Res.ret (AV.d (D.int IntKind.i64 (1 : Int))), [])) (by kernel_rfl) ?_
    exact ret_i (F2 (by omega) (badN_3 rfl (by assumption))).symm
theorem fields31_7 (s : List UInt8) (n : Int) (a : List T) (o : List FlowT) (hs : s.length ≤ 140737488351232) (ha : SmL a) (hok : OkL a) (k : Nat) (hk : s.length + wtL a + 8 < k) :
    icall Try.prog cfg k 31 [.agg [.d (.int .i64 7), .d (.str s), .d (.int .i64 n), .d (.list (cellsL a)), .d (.list (o.map FlowT.cells))]] [] = some (.ret (.d (.int .i64 (fieldsS ⟨7, s, n, a, o⟩))), []) := by
  obtain ⟨k, rfl⟩ : ∃ j, k = j + 1 := ⟨k - 1, by omega⟩
  have hl := cellsL_len a
  have hl2 : (o.map FlowT.cells).length = o.length := List.length_map ..
  obtain ⟨y, hy, hy0⟩ := arg_first a
  have hwl := wtL_len a
  have hc : a.length ≠ 0 → icall Try.prog cfg k 66 [y.av, .d (.bool false)] [] = some (.ret (.d (.int .i64 (typedS y false))), []) := fun h => typed66 y false (SmL_mem ha (List.mem_of_getElem? (hy h).1)) (OkL_mem hok (List.mem_of_getElem? (hy h).1)) k (by have := wtL_mem a y (List.mem_of_getElem? (hy h).1); omega)
  have ea : asksK 7 = true := rfl
  have el : leastK 7 = 1 := rfl
  have em : mostK 7 = 1 := rfl
  rw [icall_body rfl Try.func31]
  obtain ⟨lp, hlp⟩ : ∃ lp, lp = lpOf Try.prog cfg (icall Try.prog cfg k) Try.f31.ntmps 31 k (([] : Hp).map (·.1)) := ⟨_, rfl⟩
  rw [← hlp]
  conv => lhs; whnf
  refine nextK_of (of64 7 (by omega) k (by omega)) ?_
  conv => lhs; whnf
  refine iteK_not ?_
  conv => lhs; whnf
  refine iteK_beq (fun h1 => ?_) (fun h1 => ?_)
  · obtain rfl : s = [] := h1
    conv => lhs; whnf
    refine iteK_dec (fun h2 => ?_) (fun h2 => ?_)
    · rw [dec_t h2]
      conv => lhs; whnf
      refine Eq.trans (b := some (Res.ret (AV.d (D.int IntKind.i64 (2 : Int))), [])) (by kernel_rfl) ?_
      exact ret_i (F3 (by omega) (badN_1 rfl (by first | rfl | assumption)) (by omega)).symm
    · rw [dec_f h2]
      conv => lhs; whnf
      refine iteK_dec (fun h3 => ?_) (fun h3 => ?_)
      · rw [dec_t h3]
        conv => lhs; whnf
        refine Eq.trans (b := some (Res.ret (AV.d (D.int IntKind.i64 (2 : Int))), [])) (by kernel_rfl) ?_
        exact ret_i (F3 (by omega) (badN_1 rfl (by first | rfl | assumption)) (by omega)).symm
      · rw [dec_f h3]
        conv => lhs; whnf
        refine iteK_bne (fun h4 => ?_) (fun h4 => ?_)
        · rw [bne_t h4]
          conv => lhs; whnf
          refine Eq.trans (b := some (Res.ret (AV.d (D.int IntKind.i64 (2 : Int))), [])) (by kernel_rfl) ?_
          exact ret_i (F3 (by omega) (badN_1 rfl (by first | rfl | assumption)) (by omega)).symm
        · obtain rfl : n = (0 : Int) := h4
          conv => lhs; whnf
          refine iteK_not ?_
          conv => lhs; whnf
          refine iteK_beq (fun h5 => ?_) (fun h5 => ?_)
          · rw [beq_t h5]
            conv => lhs; whnf
            refine iteK_dec (fun h6 => ?_) (fun h6 => ?_)
            · rw [dec_t h6]
              conv => lhs; whnf
              refine Eq.trans (b := some (Res.ret (AV.d (D.int IntKind.i64 (1 : Int))), [])) (by kernel_rfl) ?_
              ((try simp only [ea, ab_1, ab_2, ab_3, ab_4] at *); omega)
            · rw [dec_f h6]
              conv => lhs; whnf
              refine iteK_dec (fun h7 => ?_) (fun h7 => ?_)
              · rw [dec_t h7]
                conv => lhs; whnf
                refine Eq.trans (b := some (Res.ret (AV.d (D.int IntKind.i64 (8 : Int))), [])) (by kernel_rfl) ?_
                ((try simp only [ea, ab_1, ab_2, ab_3, ab_4] at *); exact ret_i (F5 (by omega) (badN_1 rfl (by first | rfl | assumption)) (by omega) (by show (a.length : Int) = 1; omega) (by show (o.length : Int) < 1 ∨ (o.length : Int) > 1; omega)).symm)
              · rw [dec_f h7]
                conv => lhs; whnf
                refine iteK_dec (fun h8 => ?_) (fun h8 => ?_)
                · rw [dec_t h8]
                  conv => lhs; whnf
                  refine Eq.trans (b := some (Res.ret (AV.d (D.int IntKind.i64 (8 : Int))), [])) (by kernel_rfl) ?_
                  ((try simp only [ea, ab_1, ab_2, ab_3, ab_4] at *); exact ret_i (F5 (by omega) (badN_1 rfl (by first | rfl | assumption)) (by omega) (by show (a.length : Int) = 1; omega) (by show (o.length : Int) < 1 ∨ (o.length : Int) > 1; omega)).symm)
                · rw [dec_f h8]
                  conv => lhs; whnf
                  refine nextK_of (aop_ix rfl rfl rfl rfl (ixL_at' (n := 0) rfl (cellsL_get _ _ _ (hy (by (try simp only [ea, ab_1, ab_2, ab_3, ab_4] at *); omega)).1) rfl)) ?_
                  conv => lhs; whnf
                  refine nextK_of (hc (by (try simp only [ea, ab_1, ab_2, ab_3, ab_4] at *); omega)) ?_
                  conv => lhs; whnf
                  refine Eq.trans (b := some (Res.ret (AV.d (D.int IntKind.i64 (typedS y false))), [])) (by kernel_rfl) ?_
                  ((try simp only [ea, ab_1, ab_2, ab_3, ab_4] at *); exact ret_i ((F6 (by omega) (badN_1 rfl (by first | rfl | assumption)) (by omega) (by show (a.length : Int) = 1; omega) (by show ¬((o.length : Int) < 1 ∨ (o.length : Int) > 1); omega)).trans (hy (by omega)).2).symm)
          · rw [beq_f h5]
            conv => lhs; whnf
            refine Eq.trans (b := some (Res.ret (AV.d (D.int IntKind.i64 (1 : Int))), [])) (by kernel_rfl) ?_
            ((try simp only [ea, ab_1, ab_2, ab_3, ab_4] at *); exact ret_i (F4 (by omega) (badN_1 rfl (by first | rfl | assumption)) (by omega) (by show (a.length : Int) ≠ 1; omega)).symm)
  · rw [beq_f h1]
    conv => lhs; whnf
    refine Eq.trans (b := some (Res.ret (AV.d (D.int IntKind.i64 (1 : Int))), [])) (by kernel_rfl) ?_
    exact ret_i (F2 (by omega) (badN_2 rfl (by assumption))).symm
theorem fields31_8 (s : List UInt8) (n : Int) (a : List T) (o : List FlowT) (hs : s.length ≤ 140737488351232) (ha : SmL a) (hok : OkL a) (k : Nat) (hk : s.length + wtL a + 8 < k) :
    icall Try.prog cfg k 31 [.agg [.d (.int .i64 8), .d (.str s), .d (.int .i64 n), .d (.list (cellsL a)), .d (.list (o.map FlowT.cells))]] [] = some (.ret (.d (.int .i64 (fieldsS ⟨8, s, n, a, o⟩))), []) := by
  obtain ⟨k, rfl⟩ : ∃ j, k = j + 1 := ⟨k - 1, by omega⟩
  have hl := cellsL_len a
  have hl2 : (o.map FlowT.cells).length = o.length := List.length_map ..
  obtain ⟨y, hy, hy0⟩ := arg_first a
  have hwl := wtL_len a
  have hc : a.length ≠ 0 → icall Try.prog cfg k 66 [y.av, .d (.bool false)] [] = some (.ret (.d (.int .i64 (typedS y false))), []) := fun h => typed66 y false (SmL_mem ha (List.mem_of_getElem? (hy h).1)) (OkL_mem hok (List.mem_of_getElem? (hy h).1)) k (by have := wtL_mem a y (List.mem_of_getElem? (hy h).1); omega)
  have ea : asksK 8 = false := rfl
  have el : leastK 8 = 0 := rfl
  have em : mostK 8 = 0 := rfl
  rw [icall_body rfl Try.func31]
  obtain ⟨lp, hlp⟩ : ∃ lp, lp = lpOf Try.prog cfg (icall Try.prog cfg k) Try.f31.ntmps 31 k (([] : Hp).map (·.1)) := ⟨_, rfl⟩
  rw [← hlp]
  conv => lhs; whnf
  refine nextK_of (of64 8 (by omega) k (by omega)) ?_
  conv => lhs; whnf
  refine iteK_not ?_
  conv => lhs; whnf
  refine iteK_beq (fun h1 => ?_) (fun h1 => ?_)
  · obtain rfl : s = [] := h1
    conv => lhs; whnf
    refine iteK_dec (fun h2 => ?_) (fun h2 => ?_)
    · rw [dec_t h2]
      conv => lhs; whnf
      refine Eq.trans (b := some (Res.ret (AV.d (D.int IntKind.i64 (2 : Int))), [])) (by kernel_rfl) ?_
      exact ret_i (F3 (by omega) (badN_1 rfl (by first | rfl | assumption)) (by omega)).symm
    · rw [dec_f h2]
      conv => lhs; whnf
      refine iteK_dec (fun h3 => ?_) (fun h3 => ?_)
      · rw [dec_t h3]
        conv => lhs; whnf
        refine Eq.trans (b := some (Res.ret (AV.d (D.int IntKind.i64 (2 : Int))), [])) (by kernel_rfl) ?_
        exact ret_i (F3 (by omega) (badN_1 rfl (by first | rfl | assumption)) (by omega)).symm
      · rw [dec_f h3]
        conv => lhs; whnf
        refine iteK_bne (fun h4 => ?_) (fun h4 => ?_)
        · rw [bne_t h4]
          conv => lhs; whnf
          refine Eq.trans (b := some (Res.ret (AV.d (D.int IntKind.i64 (2 : Int))), [])) (by kernel_rfl) ?_
          exact ret_i (F3 (by omega) (badN_1 rfl (by first | rfl | assumption)) (by omega)).symm
        · obtain rfl : n = (0 : Int) := h4
          conv => lhs; whnf
          refine iteK_not ?_
          conv => lhs; whnf
          refine iteK_beq (fun h5 => ?_) (fun h5 => ?_)
          · rw [beq_t h5]
            conv => lhs; whnf
            refine iteK_dec (fun h6 => ?_) (fun h6 => ?_)
            · rw [dec_t h6]
              conv => lhs; whnf
              refine Eq.trans (b := some (Res.ret (AV.d (D.int IntKind.i64 (1 : Int))), [])) (by kernel_rfl) ?_
              ((try simp only [ea, ab_1, ab_2, ab_3, ab_4] at *); exact ret_i (F4 (by omega) (badN_1 rfl (by first | rfl | assumption)) (by omega) (by show (a.length : Int) ≠ 0; omega)).symm)
            · rw [dec_f h6]
              conv => lhs; whnf
              refine iteK_dec (fun h7 => ?_) (fun h7 => ?_)
              · rw [dec_t h7]
                conv => lhs; whnf
                refine Eq.trans (b := some (Res.ret (AV.d (D.int IntKind.i64 (8 : Int))), [])) (by kernel_rfl) ?_
                ((try simp only [ea, ab_1, ab_2, ab_3, ab_4] at *); exact ret_i (F5 (by omega) (badN_1 rfl (by first | rfl | assumption)) (by omega) (by show (a.length : Int) = 0; omega) (by show (o.length : Int) < 0 ∨ (o.length : Int) > 0; omega)).symm)
              · rw [dec_f h7]
                conv => lhs; whnf
                refine Eq.trans (b := some (Res.ret (AV.d (D.int IntKind.i64 (0 : Int))), [])) (by kernel_rfl) ?_
                ((try simp only [ea, ab_1, ab_2, ab_3, ab_4] at *); exact ret_i ((F6 (by omega) (badN_1 rfl (by first | rfl | assumption)) (by omega) (by show (a.length : Int) = 0; omega) (by show ¬((o.length : Int) < 0 ∨ (o.length : Int) > 0); omega)).trans (hy0 (by omega))).symm)
          · rw [beq_f h5]
            conv => lhs; whnf
            refine Eq.trans (b := some (Res.ret (AV.d (D.int IntKind.i64 (1 : Int))), [])) (by kernel_rfl) ?_
            ((try simp only [ea, ab_1, ab_2, ab_3, ab_4] at *); exact ret_i (F4 (by omega) (badN_1 rfl (by first | rfl | assumption)) (by omega) (by show (a.length : Int) ≠ 0; omega)).symm)
  · rw [beq_f h1]
    conv => lhs; whnf
    refine Eq.trans (b := some (Res.ret (AV.d (D.int IntKind.i64 (1 : Int))), [])) (by kernel_rfl) ?_
    exact ret_i (F2 (by omega) (badN_2 rfl (by assumption))).symm
theorem fields31_9 (s : List UInt8) (n : Int) (a : List T) (o : List FlowT) (hs : s.length ≤ 140737488351232) (ha : SmL a) (hok : OkL a) (k : Nat) (hk : s.length + wtL a + 8 < k) :
    icall Try.prog cfg k 31 [.agg [.d (.int .i64 9), .d (.str s), .d (.int .i64 n), .d (.list (cellsL a)), .d (.list (o.map FlowT.cells))]] [] = some (.ret (.d (.int .i64 (fieldsS ⟨9, s, n, a, o⟩))), []) := by
  obtain ⟨k, rfl⟩ : ∃ j, k = j + 1 := ⟨k - 1, by omega⟩
  have hl := cellsL_len a
  have hl2 : (o.map FlowT.cells).length = o.length := List.length_map ..
  obtain ⟨y, hy, hy0⟩ := arg_first a
  have hwl := wtL_len a
  have hc : a.length ≠ 0 → icall Try.prog cfg k 66 [y.av, .d (.bool false)] [] = some (.ret (.d (.int .i64 (typedS y false))), []) := fun h => typed66 y false (SmL_mem ha (List.mem_of_getElem? (hy h).1)) (OkL_mem hok (List.mem_of_getElem? (hy h).1)) k (by have := wtL_mem a y (List.mem_of_getElem? (hy h).1); omega)
  have ea : asksK 9 = true := rfl
  have el : leastK 9 = 1 := rfl
  have em : mostK 9 = 1 := rfl
  rw [icall_body rfl Try.func31]
  obtain ⟨lp, hlp⟩ : ∃ lp, lp = lpOf Try.prog cfg (icall Try.prog cfg k) Try.f31.ntmps 31 k (([] : Hp).map (·.1)) := ⟨_, rfl⟩
  rw [← hlp]
  conv => lhs; whnf
  refine nextK_of (of64 9 (by omega) k (by omega)) ?_
  conv => lhs; whnf
  refine nextK_b (packName_w s (by unfold lim; omega) k (by omega)) (fun h1 => ?_) (fun h1 => ?_)
  · conv => lhs; whnf
    refine nextK_b (var65 s hs k (by omega)) (fun h2 => ?_) (fun h2 => ?_)
    · conv => lhs; whnf
      refine iteK_dec (fun h3 => ?_) (fun h3 => ?_)
      · rw [dec_t h3]
        conv => lhs; whnf
        refine Eq.trans (b := some (Res.ret (AV.d (D.int IntKind.i64 (2 : Int))), [])) (by kernel_rfl) ?_
        exact ret_i (F3 (by omega) (by first | exact badN_9 (by assumption) | exact badN_9a (by assumption) (by assumption) (by assumption)) (by omega)).symm
      · rw [dec_f h3]
        conv => lhs; whnf
        refine iteK_dec (fun h4 => ?_) (fun h4 => ?_)
        · rw [dec_t h4]
          conv => lhs; whnf
          refine Eq.trans (b := some (Res.ret (AV.d (D.int IntKind.i64 (2 : Int))), [])) (by kernel_rfl) ?_
          exact ret_i (F3 (by omega) (by first | exact badN_9 (by assumption) | exact badN_9a (by assumption) (by assumption) (by assumption)) (by omega)).symm
        · rw [dec_f h4]
          conv => lhs; whnf
          refine iteK_bne (fun h5 => ?_) (fun h5 => ?_)
          · rw [bne_t h5]
            conv => lhs; whnf
            refine Eq.trans (b := some (Res.ret (AV.d (D.int IntKind.i64 (2 : Int))), [])) (by kernel_rfl) ?_
            exact ret_i (F3 (by omega) (by first | exact badN_9 (by assumption) | exact badN_9a (by assumption) (by assumption) (by assumption)) (by omega)).symm
          · obtain rfl : n = (0 : Int) := h5
            conv => lhs; whnf
            refine iteK_not ?_
            conv => lhs; whnf
            refine iteK_beq (fun h6 => ?_) (fun h6 => ?_)
            · rw [beq_t h6]
              conv => lhs; whnf
              refine iteK_dec (fun h7 => ?_) (fun h7 => ?_)
              · rw [dec_t h7]
                conv => lhs; whnf
                refine Eq.trans (b := some (Res.ret (AV.d (D.int IntKind.i64 (1 : Int))), [])) (by kernel_rfl) ?_
                ((try simp only [ea, ab_1, ab_2, ab_3, ab_4] at *); omega)
              · rw [dec_f h7]
                conv => lhs; whnf
                refine iteK_dec (fun h8 => ?_) (fun h8 => ?_)
                · rw [dec_t h8]
                  conv => lhs; whnf
                  refine Eq.trans (b := some (Res.ret (AV.d (D.int IntKind.i64 (8 : Int))), [])) (by kernel_rfl) ?_
                  ((try simp only [ea, ab_1, ab_2, ab_3, ab_4] at *); exact ret_i (F5 (by omega) (by first | exact badN_9 (by assumption) | exact badN_9a (by assumption) (by assumption) (by assumption)) (by omega) (by show (a.length : Int) = 1; omega) (by show (o.length : Int) < 1 ∨ (o.length : Int) > 1; omega)).symm)
                · rw [dec_f h8]
                  conv => lhs; whnf
                  refine iteK_dec (fun h9 => ?_) (fun h9 => ?_)
                  · rw [dec_t h9]
                    conv => lhs; whnf
                    refine Eq.trans (b := some (Res.ret (AV.d (D.int IntKind.i64 (8 : Int))), [])) (by kernel_rfl) ?_
                    ((try simp only [ea, ab_1, ab_2, ab_3, ab_4] at *); exact ret_i (F5 (by omega) (by first | exact badN_9 (by assumption) | exact badN_9a (by assumption) (by assumption) (by assumption)) (by omega) (by show (a.length : Int) = 1; omega) (by show (o.length : Int) < 1 ∨ (o.length : Int) > 1; omega)).symm)
                  · rw [dec_f h9]
                    conv => lhs; whnf
                    refine nextK_of (aop_ix rfl rfl rfl rfl (ixL_at' (n := 0) rfl (cellsL_get _ _ _ (hy (by (try simp only [ea, ab_1, ab_2, ab_3, ab_4] at *); omega)).1) rfl)) ?_
                    conv => lhs; whnf
                    refine nextK_of (hc (by (try simp only [ea, ab_1, ab_2, ab_3, ab_4] at *); omega)) ?_
                    conv => lhs; whnf
                    refine Eq.trans (b := some (Res.ret (AV.d (D.int IntKind.i64 (typedS y false))), [])) (by kernel_rfl) ?_
                    ((try simp only [ea, ab_1, ab_2, ab_3, ab_4] at *); exact ret_i ((F6 (by omega) (by first | exact badN_9 (by assumption) | exact badN_9a (by assumption) (by assumption) (by assumption)) (by omega) (by show (a.length : Int) = 1; omega) (by show ¬((o.length : Int) < 1 ∨ (o.length : Int) > 1); omega)).trans (hy (by omega)).2).symm)
            · rw [beq_f h6]
              conv => lhs; whnf
              refine Eq.trans (b := some (Res.ret (AV.d (D.int IntKind.i64 (1 : Int))), [])) (by kernel_rfl) ?_
              ((try simp only [ea, ab_1, ab_2, ab_3, ab_4] at *); exact ret_i (F4 (by omega) (by first | exact badN_9 (by assumption) | exact badN_9a (by assumption) (by assumption) (by assumption)) (by omega) (by show (a.length : Int) ≠ 1; omega)).symm)
    · conv => lhs; whnf
      refine Eq.trans (b := some (Res.ret (AV.d (D.int IntKind.i64 (1 : Int))), [])) (by kernel_rfl) ?_
      exact ret_i (F2 (by omega) (by first | exact badN_9b | exact badN_9c | exact badN_3 rfl (by assumption) | exact badN_9f (by assumption))).symm
  · conv => lhs; whnf
    refine Eq.trans (b := some (Res.ret (AV.d (D.int IntKind.i64 (1 : Int))), [])) (by kernel_rfl) ?_
    exact ret_i (F2 (by omega) (by first | exact badN_9b | exact badN_9c | exact badN_3 rfl (by assumption) | exact badN_9f (by assumption))).symm
theorem fields31_0 (x : Int) (hx9 : ¬(1 ≤ x ∧ x ≤ 9)) (s : List UInt8) (n : Int) (a : List T) (o : List FlowT) (hs : s.length ≤ 140737488351232) (ha : SmL a) (hok : OkL a) (k : Nat) (hk : s.length + wtL a + 8 < k) :
    icall Try.prog cfg k 31 [.agg [.d (.int .i64 x), .d (.str s), .d (.int .i64 n), .d (.list (cellsL a)), .d (.list (o.map FlowT.cells))]] [] = some (.ret (.d (.int .i64 (fieldsS ⟨x, s, n, a, o⟩))), []) := by
  obtain ⟨k, rfl⟩ : ∃ j, k = j + 1 := ⟨k - 1, by omega⟩
  have hl := cellsL_len a
  have hl2 : (o.map FlowT.cells).length = o.length := List.length_map ..
  obtain ⟨y, hy, hy0⟩ := arg_first a
  have hwl := wtL_len a
  have hc : a.length ≠ 0 → icall Try.prog cfg k 66 [y.av, .d (.bool false)] [] = some (.ret (.d (.int .i64 (typedS y false))), []) := fun h => typed66 y false (SmL_mem ha (List.mem_of_getElem? (hy h).1)) (OkL_mem hok (List.mem_of_getElem? (hy h).1)) k (by have := wtL_mem a y (List.mem_of_getElem? (hy h).1); omega)
  rw [icall_body rfl Try.func31]
  obtain ⟨lp, hlp⟩ : ∃ lp, lp = lpOf Try.prog cfg (icall Try.prog cfg k) Try.f31.ntmps 31 k (([] : Hp).map (·.1)) := ⟨_, rfl⟩
  rw [← hlp]
  conv => lhs; whnf
  refine nextK_of (of64n x hx9 k (by omega)) ?_
  conv => lhs; whnf
  refine Eq.trans (b := some (Res.ret (AV.d (D.int IntKind.i64 (1 : Int))), [])) (by kernel_rfl) ?_
  exact ret_i (F1 (by omega)).symm
theorem fields31 (p : PlaceT) (hs : p.Sm) (ho : p.Ok) (k : Nat) (hk : p.wt ≤ k) : icall Try.prog cfg k 31 [p.av] [] = some (.ret (.d (.int .i64 (fieldsS p))), []) := by
  obtain ⟨x, s, n, a, o⟩ := p
  obtain ⟨h1, h2, h3⟩ := hs
  obtain ⟨g1, g2, g3, g4, g5, g6, g7⟩ := ho
  have hw : s.length + wtL a + wtS FlowT.wt o + 12 ≤ k := hk
  by_cases h : 1 ≤ x ∧ x ≤ 9
  · rcases (by omega : x = 1 ∨ x = 2 ∨ x = 3 ∨ x = 4 ∨ x = 5 ∨ x = 6 ∨ x = 7 ∨ x = 8 ∨ x = 9) with rfl | rfl | rfl | rfl | rfl | rfl | rfl | rfl | rfl
    · exact fields31_1 s n a o h1 h2 g5 k (by omega)
    · exact fields31_2 s n a o h1 h2 g5 k (by omega)
    · exact fields31_3 s n a o h1 h2 g5 k (by omega)
    · exact fields31_4 s n a o h1 h2 g5 k (by omega)
    · exact fields31_5 s n a o h1 h2 g5 k (by omega)
    · exact fields31_6 s n a o h1 h2 g5 k (by omega)
    · exact fields31_7 s n a o h1 h2 g5 k (by omega)
    · exact fields31_8 s n a o h1 h2 g5 k (by omega)
    · exact fields31_9 s n a o h1 h2 g5 k (by omega)
  · exact fields31_0 x h s n a o h1 h2 g5 k (by omega)
end Go.Rx11
end
section
open Go Go.Rx Go.Proofs Go.Rx11 Go.RxTree
set_option maxRecDepth 1000000
set_option maxHeartbeats 4000000
set_option linter.unusedVariables false
set_option linter.unusedSimpArgs false
namespace Go.Rx11
theorem fields34_1 (s : List UInt8) (n : Int) (a : List T) (o : List FlowT) (hs : s.length ≤ 140737488351232) (ha : SmL a) (hok : OkL a) (k : Nat) (hk : s.length + wtL a + 8 < k) :
    icall Try.prog cfg k 34 [.agg [.d (.int .i64 1), .d (.str s), .d (.int .i64 n), .d (.list (cellsL a)), .d (.list (o.map FlowT.cells))]] [] = some (.ret (.d (.int .i64 (fieldsS ⟨1, s, n, a, o⟩))), []) := by
  obtain ⟨k, rfl⟩ : ∃ j, k = j + 1 := ⟨k - 1, by omega⟩
  have hl := cellsL_len a
  have hl2 : (o.map FlowT.cells).length = o.length := List.length_map ..
  obtain ⟨y, hy, hy0⟩ := arg_first a
  have hwl := wtL_len a
  have hc : a.length ≠ 0 → icall Try.prog cfg k 71 [y.av, .d (.bool false)] [] = some (.ret (.d (.int .i64 (typedS y false))), []) := fun h => typed71 y false (SmL_mem ha (List.mem_of_getElem? (hy h).1)) (OkL_mem hok (List.mem_of_getElem? (hy h).1)) k (by have := wtL_mem a y (List.mem_of_getElem? (hy h).1); omega)
  have ea : asksK 1 = false := rfl
  have el : leastK 1 = 1 := rfl
  have em : mostK 1 = 1 := rfl
  rw [icall_body rfl Try.func34]
  obtain ⟨lp, hlp⟩ : ∃ lp, lp = lpOf Try.prog cfg (icall Try.prog cfg k) Try.f34.ntmps 34 k (([] : Hp).map (·.1)) := ⟨_, rfl⟩
  rw [← hlp]
  conv => lhs; whnf
  refine nextK_of (named67 1 k (by omega)) ?_
  conv => lhs; whnf
  refine iteK_not ?_
  conv => lhs; whnf
  refine iteK_beq (fun h1 => ?_) (fun h1 => ?_)
  · obtain rfl : s = [] := h1
    conv => lhs; whnf
    refine iteK_dec (fun h2 => ?_) (fun h2 => ?_)
    · rw [dec_t h2]
      conv => lhs; whnf
      refine Eq.trans (b := some (Res.ret (AV.d (D.int IntKind.i64 (2 : Int))), [])) (by kernel_rfl) ?_
      exact ret_i (F3 (by omega) (badN_1 rfl (by first | rfl | assumption)) (by omega)).symm
    · rw [dec_f h2]
      conv => lhs; whnf
      refine iteK_dec (fun h3 => ?_) (fun h3 => ?_)
      · rw [dec_t h3]
        conv => lhs; whnf
        refine Eq.trans (b := some (Res.ret (AV.d (D.int IntKind.i64 (2 : Int))), [])) (by kernel_rfl) ?_
        exact ret_i (F3 (by omega) (badN_1 rfl (by first | rfl | assumption)) (by omega)).symm
      · rw [dec_f h3]
        conv => lhs; whnf
        refine iteK_dec (fun h4 => ?_) (fun h4 => ?_)
        · rw [dec_t h4]
          conv => lhs; whnf
          refine nextK_of (numb68 1 k (by omega)) ?_
          conv => lhs; whnf
          refine Eq.trans (b := some (Res.ret (AV.d (D.int IntKind.i64 (2 : Int))), [])) (by kernel_rfl) ?_
          exact ret_i (F3 (by omega) (badN_1 rfl (by first | rfl | assumption)) (by omega)).symm
        · rw [dec_f h4]
          conv => lhs; whnf
          refine nextK_of (asks69 1 k (by omega)) ?_
          conv => lhs; whnf
          refine iteK_bne (fun h5 => ?_) (fun h5 => ?_)
          · rw [bne_t h5]
            conv => lhs; whnf
            refine Eq.trans (b := some (Res.ret (AV.d (D.int IntKind.i64 (1 : Int))), [])) (by kernel_rfl) ?_
            ((try simp only [ea, ab_1, ab_2, ab_3, ab_4] at *); exact ret_i (F4 (by omega) (badN_1 rfl (by first | rfl | assumption)) (by omega) (by show (a.length : Int) ≠ 0; omega)).symm)
          · rw [bne_f h5]
            conv => lhs; whnf
            refine nextK_of (ways70 1 k (by omega)) ?_
            conv => lhs; whnf
            refine iteK_dec (fun h6 => ?_) (fun h6 => ?_)
            · rw [dec_t h6]
              conv => lhs; whnf
              refine Eq.trans (b := some (Res.ret (AV.d (D.int IntKind.i64 (8 : Int))), [])) (by kernel_rfl) ?_
              ((try simp only [ea, ab_1, ab_2, ab_3, ab_4] at *); exact ret_i (F5 (by omega) (badN_1 rfl (by first | rfl | assumption)) (by omega) (by show (a.length : Int) = 0; omega) (by show (o.length : Int) < 1 ∨ (o.length : Int) > 1; omega)).symm)
            · rw [dec_f h6]
              conv => lhs; whnf
              refine iteK_dec (fun h7 => ?_) (fun h7 => ?_)
              · rw [dec_t h7]
                conv => lhs; whnf
                refine Eq.trans (b := some (Res.ret (AV.d (D.int IntKind.i64 (8 : Int))), [])) (by kernel_rfl) ?_
                ((try simp only [ea, ab_1, ab_2, ab_3, ab_4] at *); exact ret_i (F5 (by omega) (badN_1 rfl (by first | rfl | assumption)) (by omega) (by show (a.length : Int) = 0; omega) (by show (o.length : Int) < 1 ∨ (o.length : Int) > 1; omega)).symm)
              · rw [dec_f h7]
                conv => lhs; whnf
                refine Eq.trans (b := some (Res.ret (AV.d (D.int IntKind.i64 (0 : Int))), [])) (by kernel_rfl) ?_
                ((try simp only [ea, ab_1, ab_2, ab_3, ab_4] at *); exact ret_i ((F6 (by omega) (badN_1 rfl (by first | rfl | assumption)) (by omega) (by show (a.length : Int) = 0; omega) (by show ¬((o.length : Int) < 1 ∨ (o.length : Int) > 1); omega)).trans (hy0 (by omega))).symm)
  · rw [beq_f h1]
    conv => lhs; whnf
    refine Eq.trans (b := some (Res.ret (AV.d (D.int IntKind.i64 (1 : Int))), [])) (by kernel_rfl) ?_
    exact ret_i (F2 (by omega) (badN_2 rfl (by assumption))).symm
theorem fields34_2 (s : List UInt8) (n : Int) (a : List T) (o : List FlowT) (hs : s.length ≤ 140737488351232) (ha : SmL a) (hok : OkL a) (k : Nat) (hk : s.length + wtL a + 8 < k) :
    icall Try.prog cfg k 34 [.agg [.d (.int .i64 2), .d (.str s), .d (.int .i64 n), .d (.list (cellsL a)), .d (.list (o.map FlowT.cells))]] [] = some (.ret (.d (.int .i64 (fieldsS ⟨2, s, n, a, o⟩))), []) := by
  obtain ⟨k, rfl⟩ : ∃ j, k = j + 1 := ⟨k - 1, by omega⟩
  have hl := cellsL_len a
  have hl2 : (o.map FlowT.cells).length = o.length := List.length_map ..
  obtain ⟨y, hy, hy0⟩ := arg_first a
  have hwl := wtL_len a
  have hc : a.length ≠ 0 → icall Try.prog cfg k 71 [y.av, .d (.bool false)] [] = some (.ret (.d (.int .i64 (typedS y false))), []) := fun h => typed71 y false (SmL_mem ha (List.mem_of_getElem? (hy h).1)) (OkL_mem hok (List.mem_of_getElem? (hy h).1)) k (by have := wtL_mem a y (List.mem_of_getElem? (hy h).1); omega)
  have ea : asksK 2 = false := rfl
  have el : leastK 2 = 1 := rfl
  have em : mostK 2 = 1 := rfl
  rw [icall_body rfl Try.func34]
  obtain ⟨lp, hlp⟩ : ∃ lp, lp = lpOf Try.prog cfg (icall Try.prog cfg k) Try.f34.ntmps 34 k (([] : Hp).map (·.1)) := ⟨_, rfl⟩
  rw [← hlp]
  conv => lhs; whnf
  refine nextK_of (named67 2 k (by omega)) ?_
  conv => lhs; whnf
  refine nextK_b (refName_w s (by unfold lim; omega) k (by omega)) (fun h1 => ?_) (fun h1 => ?_)
  · conv => lhs; whnf
    refine iteK_dec (fun h2 => ?_) (fun h2 => ?_)
    · rw [dec_t h2]
      conv => lhs; whnf
      refine Eq.trans (b := some (Res.ret (AV.d (D.int IntKind.i64 (2 : Int))), [])) (by kernel_rfl) ?_
      exact ret_i (F3 (by omega) (badN_4 rfl (by decide) (by assumption)) (by omega)).symm
    · rw [dec_f h2]
      conv => lhs; whnf
      refine iteK_dec (fun h3 => ?_) (fun h3 => ?_)
      · rw [dec_t h3]
        conv => lhs; whnf
        refine Eq.trans (b := some (Res.ret (AV.d (D.int IntKind.i64 (2 : Int))), [])) (by kernel_rfl) ?_
        exact ret_i (F3 (by omega) (badN_4 rfl (by decide) (by assumption)) (by omega)).symm
      · rw [dec_f h3]
        conv => lhs; whnf
        refine iteK_dec (fun h4 => ?_) (fun h4 => ?_)
        · rw [dec_t h4]
          conv => lhs; whnf
          refine nextK_of (numb68 2 k (by omega)) ?_
          conv => lhs; whnf
          refine nextK_of (asks69 2 k (by omega)) ?_
          conv => lhs; whnf
          refine iteK_bne (fun h5 => ?_) (fun h5 => ?_)
          · rw [bne_t h5]
            conv => lhs; whnf
            refine Eq.trans (b := some (Res.ret (AV.d (D.int IntKind.i64 (1 : Int))), [])) (by kernel_rfl) ?_
            ((try simp only [ea, ab_1, ab_2, ab_3, ab_4] at *); exact ret_i (F4 (by omega) (badN_4 rfl (by decide) (by assumption)) (by omega) (by show (a.length : Int) ≠ 0; omega)).symm)
          · rw [bne_f h5]
            conv => lhs; whnf
            refine nextK_of (ways70 2 k (by omega)) ?_
            conv => lhs; whnf
            refine iteK_dec (fun h6 => ?_) (fun h6 => ?_)
            · rw [dec_t h6]
              conv => lhs; whnf
              refine Eq.trans (b := some (Res.ret (AV.d (D.int IntKind.i64 (8 : Int))), [])) (by kernel_rfl) ?_
              ((try simp only [ea, ab_1, ab_2, ab_3, ab_4] at *); exact ret_i (F5 (by omega) (badN_4 rfl (by decide) (by assumption)) (by omega) (by show (a.length : Int) = 0; omega) (by show (o.length : Int) < 1 ∨ (o.length : Int) > 1; omega)).symm)
            · rw [dec_f h6]
              conv => lhs; whnf
              refine iteK_dec (fun h7 => ?_) (fun h7 => ?_)
              · rw [dec_t h7]
                conv => lhs; whnf
                refine Eq.trans (b := some (Res.ret (AV.d (D.int IntKind.i64 (8 : Int))), [])) (by kernel_rfl) ?_
                ((try simp only [ea, ab_1, ab_2, ab_3, ab_4] at *); exact ret_i (F5 (by omega) (badN_4 rfl (by decide) (by assumption)) (by omega) (by show (a.length : Int) = 0; omega) (by show (o.length : Int) < 1 ∨ (o.length : Int) > 1; omega)).symm)
              · rw [dec_f h7]
                conv => lhs; whnf
                refine Eq.trans (b := some (Res.ret (AV.d (D.int IntKind.i64 (0 : Int))), [])) (by kernel_rfl) ?_
                ((try simp only [ea, ab_1, ab_2, ab_3, ab_4] at *); exact ret_i ((F6 (by omega) (badN_4 rfl (by decide) (by assumption)) (by omega) (by show (a.length : Int) = 0; omega) (by show ¬((o.length : Int) < 1 ∨ (o.length : Int) > 1); omega)).trans (hy0 (by omega))).symm)
        · rw [dec_f h4]
          conv => lhs; whnf
          refine nextK_of (asks69 2 k (by omega)) ?_
          conv => lhs; whnf
          refine iteK_bne (fun h5 => ?_) (fun h5 => ?_)
          · rw [bne_t h5]
            conv => lhs; whnf
            refine Eq.trans (b := some (Res.ret (AV.d (D.int IntKind.i64 (1 : Int))), [])) (by kernel_rfl) ?_
            ((try simp only [ea, ab_1, ab_2, ab_3, ab_4] at *); exact ret_i (F4 (by omega) (badN_4 rfl (by decide) (by assumption)) (by omega) (by show (a.length : Int) ≠ 0; omega)).symm)
          · rw [bne_f h5]
            conv => lhs; whnf
            refine nextK_of (ways70 2 k (by omega)) ?_
            conv => lhs; whnf
            refine iteK_dec (fun h6 => ?_) (fun h6 => ?_)
            · rw [dec_t h6]
              conv => lhs; whnf
              refine Eq.trans (b := some (Res.ret (AV.d (D.int IntKind.i64 (8 : Int))), [])) (by kernel_rfl) ?_
              ((try simp only [ea, ab_1, ab_2, ab_3, ab_4] at *); exact ret_i (F5 (by omega) (badN_4 rfl (by decide) (by assumption)) (by omega) (by show (a.length : Int) = 0; omega) (by show (o.length : Int) < 1 ∨ (o.length : Int) > 1; omega)).symm)
            · rw [dec_f h6]
              conv => lhs; whnf
              refine iteK_dec (fun h7 => ?_) (fun h7 => ?_)
              · rw [dec_t h7]
                conv => lhs; whnf
                refine Eq.trans (b := some (Res.ret (AV.d (D.int IntKind.i64 (8 : Int))), [])) (by kernel_rfl) ?_
                ((try simp only [ea, ab_1, ab_2, ab_3, ab_4] at *); exact ret_i (F5 (by omega) (badN_4 rfl (by decide) (by assumption)) (by omega) (by show (a.length : Int) = 0; omega) (by show (o.length : Int) < 1 ∨ (o.length : Int) > 1; omega)).symm)
              · rw [dec_f h7]
                conv => lhs; whnf
                refine Eq.trans (b := some (Res.ret (AV.d (D.int IntKind.i64 (0 : Int))), [])) (by kernel_rfl) ?_
                ((try simp only [ea, ab_1, ab_2, ab_3, ab_4] at *); exact ret_i ((F6 (by omega) (badN_4 rfl (by decide) (by assumption)) (by omega) (by show (a.length : Int) = 0; omega) (by show ¬((o.length : Int) < 1 ∨ (o.length : Int) > 1); omega)).trans (hy0 (by omega))).symm)
  · conv => lhs; whnf
    refine Eq.trans (b := some (Res.ret (AV.d (D.int IntKind.i64 (1 : Int))), [])) (by kernel_rfl) ?_
    exact ret_i (F2 (by omega) (badN_3 rfl (by assumption))).symm
theorem fields34_3 (s : List UInt8) (n : Int) (a : List T) (o : List FlowT) (hs : s.length ≤ 140737488351232) (ha : SmL a) (hok : OkL a) (k : Nat) (hk : s.length + wtL a + 8 < k) :
    icall Try.prog cfg k 34 [.agg [.d (.int .i64 3), .d (.str s), .d (.int .i64 n), .d (.list (cellsL a)), .d (.list (o.map FlowT.cells))]] [] = some (.ret (.d (.int .i64 (fieldsS ⟨3, s, n, a, o⟩))), []) := by
  obtain ⟨k, rfl⟩ : ∃ j, k = j + 1 := ⟨k - 1, by omega⟩
  have hl := cellsL_len a
  have hl2 : (o.map FlowT.cells).length = o.length := List.length_map ..
  obtain ⟨y, hy, hy0⟩ := arg_first a
  have hwl := wtL_len a
  have hc : a.length ≠ 0 → icall Try.prog cfg k 71 [y.av, .d (.bool false)] [] = some (.ret (.d (.int .i64 (typedS y false))), []) := fun h => typed71 y false (SmL_mem ha (List.mem_of_getElem? (hy h).1)) (OkL_mem hok (List.mem_of_getElem? (hy h).1)) k (by have := wtL_mem a y (List.mem_of_getElem? (hy h).1); omega)
  have ea : asksK 3 = false := rfl
  have el : leastK 3 = 1 := rfl
  have em : mostK 3 = 16 := rfl
  rw [icall_body rfl Try.func34]
  obtain ⟨lp, hlp⟩ : ∃ lp, lp = lpOf Try.prog cfg (icall Try.prog cfg k) Try.f34.ntmps 34 k (([] : Hp).map (·.1)) := ⟨_, rfl⟩
  rw [← hlp]
  conv => lhs; whnf
  refine nextK_of (named67 3 k (by omega)) ?_
  conv => lhs; whnf
  refine iteK_not ?_
  conv => lhs; whnf
  refine iteK_beq (fun h1 => ?_) (fun h1 => ?_)
  · obtain rfl : s = [] := h1
    conv => lhs; whnf
    refine iteK_dec (fun h2 => ?_) (fun h2 => ?_)
    · rw [dec_t h2]
      conv => lhs; whnf
      refine Eq.trans (b := some (Res.ret (AV.d (D.int IntKind.i64 (2 : Int))), [])) (by kernel_rfl) ?_
      exact ret_i (F3 (by omega) (badN_1 rfl (by first | rfl | assumption)) (by omega)).symm
    · rw [dec_f h2]
      conv => lhs; whnf
      refine iteK_dec (fun h3 => ?_) (fun h3 => ?_)
      · rw [dec_t h3]
        conv => lhs; whnf
        refine Eq.trans (b := some (Res.ret (AV.d (D.int IntKind.i64 (2 : Int))), [])) (by kernel_rfl) ?_
        exact ret_i (F3 (by omega) (badN_1 rfl (by first | rfl | assumption)) (by omega)).symm
      · rw [dec_f h3]
        conv => lhs; whnf
        refine iteK_dec (fun h4 => ?_) (fun h4 => ?_)
        · rw [dec_t h4]
          conv => lhs; whnf
          refine nextK_of (numb68 3 k (by omega)) ?_
          conv => lhs; whnf
          refine Eq.trans (b := some (Res.ret (AV.d (D.int IntKind.i64 (2 : Int))), [])) (by kernel_rfl) ?_
          exact ret_i (F3 (by omega) (badN_1 rfl (by first | rfl | assumption)) (by omega)).symm
        · rw [dec_f h4]
          conv => lhs; whnf
          refine nextK_of (asks69 3 k (by omega)) ?_
          conv => lhs; whnf
          refine iteK_bne (fun h5 => ?_) (fun h5 => ?_)
          · rw [bne_t h5]
            conv => lhs; whnf
            refine Eq.trans (b := some (Res.ret (AV.d (D.int IntKind.i64 (1 : Int))), [])) (by kernel_rfl) ?_
            ((try simp only [ea, ab_1, ab_2, ab_3, ab_4] at *); exact ret_i (F4 (by omega) (badN_1 rfl (by first | rfl | assumption)) (by omega) (by show (a.length : Int) ≠ 0; omega)).symm)
          · rw [bne_f h5]
            conv => lhs; whnf
            refine nextK_of (ways70 3 k (by omega)) ?_
            conv => lhs; whnf
            refine iteK_dec (fun h6 => ?_) (fun h6 => ?_)
            · rw [dec_t h6]
              conv => lhs; whnf
              refine Eq.trans (b := some (Res.ret (AV.d (D.int IntKind.i64 (8 : Int))), [])) (by kernel_rfl) ?_
              ((try simp only [ea, ab_1, ab_2, ab_3, ab_4] at *); exact ret_i (F5 (by omega) (badN_1 rfl (by first | rfl | assumption)) (by omega) (by show (a.length : Int) = 0; omega) (by show (o.length : Int) < 1 ∨ (o.length : Int) > 16; omega)).symm)
            · rw [dec_f h6]
              conv => lhs; whnf
              refine iteK_dec (fun h7 => ?_) (fun h7 => ?_)
              · rw [dec_t h7]
                conv => lhs; whnf
                refine Eq.trans (b := some (Res.ret (AV.d (D.int IntKind.i64 (8 : Int))), [])) (by kernel_rfl) ?_
                ((try simp only [ea, ab_1, ab_2, ab_3, ab_4] at *); exact ret_i (F5 (by omega) (badN_1 rfl (by first | rfl | assumption)) (by omega) (by show (a.length : Int) = 0; omega) (by show (o.length : Int) < 1 ∨ (o.length : Int) > 16; omega)).symm)
              · rw [dec_f h7]
                conv => lhs; whnf
                refine Eq.trans (b := some (Res.ret (AV.d (D.int IntKind.i64 (0 : Int))), [])) (by kernel_rfl) ?_
                ((try simp only [ea, ab_1, ab_2, ab_3, ab_4] at *); exact ret_i ((F6 (by omega) (badN_1 rfl (by first | rfl | assumption)) (by omega) (by show (a.length : Int) = 0; omega) (by show ¬((o.length : Int) < 1 ∨ (o.length : Int) > 16); omega)).trans (hy0 (by omega))).symm)
  · rw [beq_f h1]
    conv => lhs; whnf
    refine Eq.trans (b := some (Res.ret (AV.d (D.int IntKind.i64 (1 : Int))), [])) (by kernel_rfl) ?_
    exact ret_i (F2 (by omega) (badN_2 rfl (by assumption))).symm
theorem fields34_4 (s : List UInt8) (n : Int) (a : List T) (o : List FlowT) (hs : s.length ≤ 140737488351232) (ha : SmL a) (hok : OkL a) (k : Nat) (hk : s.length + wtL a + 8 < k) :
    icall Try.prog cfg k 34 [.agg [.d (.int .i64 4), .d (.str s), .d (.int .i64 n), .d (.list (cellsL a)), .d (.list (o.map FlowT.cells))]] [] = some (.ret (.d (.int .i64 (fieldsS ⟨4, s, n, a, o⟩))), []) := by
  obtain ⟨k, rfl⟩ : ∃ j, k = j + 1 := ⟨k - 1, by omega⟩
  have hl := cellsL_len a
  have hl2 : (o.map FlowT.cells).length = o.length := List.length_map ..
  obtain ⟨y, hy, hy0⟩ := arg_first a
  have hwl := wtL_len a
  have hc : a.length ≠ 0 → icall Try.prog cfg k 71 [y.av, .d (.bool false)] [] = some (.ret (.d (.int .i64 (typedS y false))), []) := fun h => typed71 y false (SmL_mem ha (List.mem_of_getElem? (hy h).1)) (OkL_mem hok (List.mem_of_getElem? (hy h).1)) k (by have := wtL_mem a y (List.mem_of_getElem? (hy h).1); omega)
  have ea : asksK 4 = false := rfl
  have el : leastK 4 = 2 := rfl
  have em : mostK 4 = 16 := rfl
  rw [icall_body rfl Try.func34]
  obtain ⟨lp, hlp⟩ : ∃ lp, lp = lpOf Try.prog cfg (icall Try.prog cfg k) Try.f34.ntmps 34 k (([] : Hp).map (·.1)) := ⟨_, rfl⟩
  rw [← hlp]
  conv => lhs; whnf
  refine nextK_of (named67 4 k (by omega)) ?_
  conv => lhs; whnf
  refine iteK_not ?_
  conv => lhs; whnf
  refine iteK_beq (fun h1 => ?_) (fun h1 => ?_)
  · obtain rfl : s = [] := h1
    conv => lhs; whnf
    refine iteK_dec (fun h2 => ?_) (fun h2 => ?_)
    · rw [dec_t h2]
      conv => lhs; whnf
      refine Eq.trans (b := some (Res.ret (AV.d (D.int IntKind.i64 (2 : Int))), [])) (by kernel_rfl) ?_
      exact ret_i (F3 (by omega) (badN_1 rfl (by first | rfl | assumption)) (by omega)).symm
    · rw [dec_f h2]
      conv => lhs; whnf
      refine iteK_dec (fun h3 => ?_) (fun h3 => ?_)
      · rw [dec_t h3]
        conv => lhs; whnf
        refine Eq.trans (b := some (Res.ret (AV.d (D.int IntKind.i64 (2 : Int))), [])) (by kernel_rfl) ?_
        exact ret_i (F3 (by omega) (badN_1 rfl (by first | rfl | assumption)) (by omega)).symm
      · rw [dec_f h3]
        conv => lhs; whnf
        refine iteK_dec (fun h4 => ?_) (fun h4 => ?_)
        · rw [dec_t h4]
          conv => lhs; whnf
          refine nextK_of (numb68 4 k (by omega)) ?_
          conv => lhs; whnf
          refine Eq.trans (b := some (Res.ret (AV.d (D.int IntKind.i64 (2 : Int))), [])) (by kernel_rfl) ?_
          exact ret_i (F3 (by omega) (badN_1 rfl (by first | rfl | assumption)) (by omega)).symm
        · rw [dec_f h4]
          conv => lhs; whnf
          refine nextK_of (asks69 4 k (by omega)) ?_
          conv => lhs; whnf
          refine iteK_bne (fun h5 => ?_) (fun h5 => ?_)
          · rw [bne_t h5]
            conv => lhs; whnf
            refine Eq.trans (b := some (Res.ret (AV.d (D.int IntKind.i64 (1 : Int))), [])) (by kernel_rfl) ?_
            ((try simp only [ea, ab_1, ab_2, ab_3, ab_4] at *); exact ret_i (F4 (by omega) (badN_1 rfl (by first | rfl | assumption)) (by omega) (by show (a.length : Int) ≠ 0; omega)).symm)
          · rw [bne_f h5]
            conv => lhs; whnf
            refine nextK_of (ways70 4 k (by omega)) ?_
            conv => lhs; whnf
            refine iteK_dec (fun h6 => ?_) (fun h6 => ?_)
            · rw [dec_t h6]
              conv => lhs; whnf
              refine Eq.trans (b := some (Res.ret (AV.d (D.int IntKind.i64 (8 : Int))), [])) (by kernel_rfl) ?_
              ((try simp only [ea, ab_1, ab_2, ab_3, ab_4] at *); exact ret_i (F5 (by omega) (badN_1 rfl (by first | rfl | assumption)) (by omega) (by show (a.length : Int) = 0; omega) (by show (o.length : Int) < 2 ∨ (o.length : Int) > 16; omega)).symm)
            · rw [dec_f h6]
              conv => lhs; whnf
              refine iteK_dec (fun h7 => ?_) (fun h7 => ?_)
              · rw [dec_t h7]
                conv => lhs; whnf
                refine Eq.trans (b := some (Res.ret (AV.d (D.int IntKind.i64 (8 : Int))), [])) (by kernel_rfl) ?_
                ((try simp only [ea, ab_1, ab_2, ab_3, ab_4] at *); exact ret_i (F5 (by omega) (badN_1 rfl (by first | rfl | assumption)) (by omega) (by show (a.length : Int) = 0; omega) (by show (o.length : Int) < 2 ∨ (o.length : Int) > 16; omega)).symm)
              · rw [dec_f h7]
                conv => lhs; whnf
                refine Eq.trans (b := some (Res.ret (AV.d (D.int IntKind.i64 (0 : Int))), [])) (by kernel_rfl) ?_
                ((try simp only [ea, ab_1, ab_2, ab_3, ab_4] at *); exact ret_i ((F6 (by omega) (badN_1 rfl (by first | rfl | assumption)) (by omega) (by show (a.length : Int) = 0; omega) (by show ¬((o.length : Int) < 2 ∨ (o.length : Int) > 16); omega)).trans (hy0 (by omega))).symm)
  · rw [beq_f h1]
    conv => lhs; whnf
    refine Eq.trans (b := some (Res.ret (AV.d (D.int IntKind.i64 (1 : Int))), [])) (by kernel_rfl) ?_
    exact ret_i (F2 (by omega) (badN_2 rfl (by assumption))).symm
theorem fields34_5 (s : List UInt8) (n : Int) (a : List T) (o : List FlowT) (hs : s.length ≤ 140737488351232) (ha : SmL a) (hok : OkL a) (k : Nat) (hk : s.length + wtL a + 8 < k) :
    icall Try.prog cfg k 34 [.agg [.d (.int .i64 5), .d (.str s), .d (.int .i64 n), .d (.list (cellsL a)), .d (.list (o.map FlowT.cells))]] [] = some (.ret (.d (.int .i64 (fieldsS ⟨5, s, n, a, o⟩))), []) := by
  obtain ⟨k, rfl⟩ : ∃ j, k = j + 1 := ⟨k - 1, by omega⟩
  have hl := cellsL_len a
  have hl2 : (o.map FlowT.cells).length = o.length := List.length_map ..
  obtain ⟨y, hy, hy0⟩ := arg_first a
  have hwl := wtL_len a
  have hc : a.length ≠ 0 → icall Try.prog cfg k 71 [y.av, .d (.bool false)] [] = some (.ret (.d (.int .i64 (typedS y false))), []) := fun h => typed71 y false (SmL_mem ha (List.mem_of_getElem? (hy h).1)) (OkL_mem hok (List.mem_of_getElem? (hy h).1)) k (by have := wtL_mem a y (List.mem_of_getElem? (hy h).1); omega)
  have ea : asksK 5 = false := rfl
  have el : leastK 5 = 1 := rfl
  have em : mostK 5 = 1 := rfl
  rw [icall_body rfl Try.func34]
  obtain ⟨lp, hlp⟩ : ∃ lp, lp = lpOf Try.prog cfg (icall Try.prog cfg k) Try.f34.ntmps 34 k (([] : Hp).map (·.1)) := ⟨_, rfl⟩
  rw [← hlp]
  conv => lhs; whnf
  refine nextK_of (named67 5 k (by omega)) ?_
  conv => lhs; whnf
  refine iteK_not ?_
  conv => lhs; whnf
  refine iteK_beq (fun h1 => ?_) (fun h1 => ?_)
  · obtain rfl : s = [] := h1
    conv => lhs; whnf
    refine iteK_dec (fun h2 => ?_) (fun h2 => ?_)
    · rw [dec_t h2]
      conv => lhs; whnf
      refine Eq.trans (b := some (Res.ret (AV.d (D.int IntKind.i64 (2 : Int))), [])) (by kernel_rfl) ?_
      exact ret_i (F3 (by omega) (badN_1 rfl (by first | rfl | assumption)) (by omega)).symm
    · rw [dec_f h2]
      conv => lhs; whnf
      refine iteK_dec (fun h3 => ?_) (fun h3 => ?_)
      · rw [dec_t h3]
        conv => lhs; whnf
        refine Eq.trans (b := some (Res.ret (AV.d (D.int IntKind.i64 (2 : Int))), [])) (by kernel_rfl) ?_
        exact ret_i (F3 (by omega) (badN_1 rfl (by first | rfl | assumption)) (by omega)).symm
      · rw [dec_f h3]
        conv => lhs; whnf
        refine iteK_dec (fun h4 => ?_) (fun h4 => ?_)
        · rw [dec_t h4]
          conv => lhs; whnf
          refine nextK_of (numb68 5 k (by omega)) ?_
          conv => lhs; whnf
          refine Eq.trans (b := some (Res.ret (AV.d (D.int IntKind.i64 (2 : Int))), [])) (by kernel_rfl) ?_
          exact ret_i (F3 (by omega) (badN_1 rfl (by first | rfl | assumption)) (by omega)).symm
        · rw [dec_f h4]
          conv => lhs; whnf
          refine nextK_of (asks69 5 k (by omega)) ?_
          conv => lhs; whnf
          refine iteK_bne (fun h5 => ?_) (fun h5 => ?_)
          · rw [bne_t h5]
            conv => lhs; whnf
            refine Eq.trans (b := some (Res.ret (AV.d (D.int IntKind.i64 (1 : Int))), [])) (by kernel_rfl) ?_
            ((try simp only [ea, ab_1, ab_2, ab_3, ab_4] at *); exact ret_i (F4 (by omega) (badN_1 rfl (by first | rfl | assumption)) (by omega) (by show (a.length : Int) ≠ 0; omega)).symm)
          · rw [bne_f h5]
            conv => lhs; whnf
            refine nextK_of (ways70 5 k (by omega)) ?_
            conv => lhs; whnf
            refine iteK_dec (fun h6 => ?_) (fun h6 => ?_)
            · rw [dec_t h6]
              conv => lhs; whnf
              refine Eq.trans (b := some (Res.ret (AV.d (D.int IntKind.i64 (8 : Int))), [])) (by kernel_rfl) ?_
              ((try simp only [ea, ab_1, ab_2, ab_3, ab_4] at *); exact ret_i (F5 (by omega) (badN_1 rfl (by first | rfl | assumption)) (by omega) (by show (a.length : Int) = 0; omega) (by show (o.length : Int) < 1 ∨ (o.length : Int) > 1; omega)).symm)
            · rw [dec_f h6]
              conv => lhs; whnf
              refine iteK_dec (fun h7 => ?_) (fun h7 => ?_)
              · rw [dec_t h7]
                conv => lhs; whnf
                refine Eq.trans (b := some (Res.ret (AV.d (D.int IntKind.i64 (8 : Int))), [])) (by kernel_rfl) ?_
                ((try simp only [ea, ab_1, ab_2, ab_3, ab_4] at *); exact ret_i (F5 (by omega) (badN_1 rfl (by first | rfl | assumption)) (by omega) (by show (a.length : Int) = 0; omega) (by show (o.length : Int) < 1 ∨ (o.length : Int) > 1; omega)).symm)
              · rw [dec_f h7]
                conv => lhs; whnf
                refine Eq.trans (b := some (Res.ret (AV.d (D.int IntKind.i64 (0 : Int))), [])) (by kernel_rfl) ?_
                ((try simp only [ea, ab_1, ab_2, ab_3, ab_4] at *); exact ret_i ((F6 (by omega) (badN_1 rfl (by first | rfl | assumption)) (by omega) (by show (a.length : Int) = 0; omega) (by show ¬((o.length : Int) < 1 ∨ (o.length : Int) > 1); omega)).trans (hy0 (by omega))).symm)
  · rw [beq_f h1]
    conv => lhs; whnf
    refine Eq.trans (b := some (Res.ret (AV.d (D.int IntKind.i64 (1 : Int))), [])) (by kernel_rfl) ?_
    exact ret_i (F2 (by omega) (badN_2 rfl (by assumption))).symm
theorem fields34_6 (s : List UInt8) (n : Int) (a : List T) (o : List FlowT) (hs : s.length ≤ 140737488351232) (ha : SmL a) (hok : OkL a) (k : Nat) (hk : s.length + wtL a + 8 < k) :
    icall Try.prog cfg k 34 [.agg [.d (.int .i64 6), .d (.str s), .d (.int .i64 n), .d (.list (cellsL a)), .d (.list (o.map FlowT.cells))]] [] = some (.ret (.d (.int .i64 (fieldsS ⟨6, s, n, a, o⟩))), []) := by
  obtain ⟨k, rfl⟩ : ∃ j, k = j + 1 := ⟨k - 1, by omega⟩
  have hl := cellsL_len a
  have hl2 : (o.map FlowT.cells).length = o.length := List.length_map ..
  obtain ⟨y, hy, hy0⟩ := arg_first a
  have hwl := wtL_len a
  have hc : a.length ≠ 0 → icall Try.prog cfg k 71 [y.av, .d (.bool false)] [] = some (.ret (.d (.int .i64 (typedS y false))), []) := fun h => typed71 y false (SmL_mem ha (List.mem_of_getElem? (hy h).1)) (OkL_mem hok (List.mem_of_getElem? (hy h).1)) k (by have := wtL_mem a y (List.mem_of_getElem? (hy h).1); omega)
  have ea : asksK 6 = true := rfl
  have el : leastK 6 = 1 := rfl
  have em : mostK 6 = 1 := rfl
  rw [icall_body rfl Try.func34]
  obtain ⟨lp, hlp⟩ : ∃ lp, lp = lpOf Try.prog cfg (icall Try.prog cfg k) Try.f34.ntmps 34 k (([] : Hp).map (·.1)) := ⟨_, rfl⟩
  rw [← hlp]
  conv => lhs; whnf
  refine nextK_of (named67 6 k (by omega)) ?_
  conv => lhs; whnf
  refine nextK_b (refName_w s (by unfold lim; omega) k (by omega)) (fun h1 => ?_) (fun h1 => ?_)
  · conv => lhs; whnf
    refine iteK_dec (fun h2 => ?_) (fun h2 => ?_)
    · rw [dec_t h2]
      conv => lhs; whnf
      refine Eq.trans (b := some (Res.ret (AV.d (D.int IntKind.i64 (2 : Int))), [])) (by kernel_rfl) ?_
      exact ret_i (F3 (by omega) (badN_4 rfl (by decide) (by assumption)) (by omega)).symm
    · rw [dec_f h2]
      conv => lhs; whnf
      refine iteK_dec (fun h3 => ?_) (fun h3 => ?_)
      · rw [dec_t h3]
        conv => lhs; whnf
        refine Eq.trans (b := some (Res.ret (AV.d (D.int IntKind.i64 (2 : Int))), [])) (by kernel_rfl) ?_
        exact ret_i (F3 (by omega) (badN_4 rfl (by decide) (by assumption)) (by omega)).symm
      · rw [dec_f h3]
        conv => lhs; whnf
        refine iteK_dec (fun h4 => ?_) (fun h4 => ?_)
        · rw [dec_t h4]
          conv => lhs; whnf
          refine nextK_of (numb68 6 k (by omega)) ?_
          conv => lhs; whnf
          refine Eq.trans (b := some (Res.ret (AV.d (D.int IntKind.i64 (2 : Int))), [])) (by kernel_rfl) ?_
          exact ret_i (F3 (by omega) (badN_4 rfl (by decide) (by assumption)) (by omega)).symm
        · rw [dec_f h4]
          conv => lhs; whnf
          refine nextK_of (asks69 6 k (by omega)) ?_
          conv => lhs; whnf
          refine iteK_bne (fun h5 => ?_) (fun h5 => ?_)
          · rw [bne_t h5]
            conv => lhs; whnf
            refine Eq.trans (b := some (Res.ret (AV.d (D.int IntKind.i64 (1 : Int))), [])) (by kernel_rfl) ?_
            ((try simp only [ea, ab_1, ab_2, ab_3, ab_4] at *); exact ret_i (F4 (by omega) (badN_4 rfl (by decide) (by assumption)) (by omega) (by show (a.length : Int) ≠ 1; omega)).symm)
          · rw [bne_f h5]
            conv => lhs; whnf
            refine nextK_of (ways70 6 k (by omega)) ?_
            conv => lhs; whnf
            refine iteK_dec (fun h6 => ?_) (fun h6 => ?_)
            · rw [dec_t h6]
              conv => lhs; whnf
              refine Eq.trans (b := some (Res.ret (AV.d (D.int IntKind.i64 (8 : Int))), [])) (by kernel_rfl) ?_
              ((try simp only [ea, ab_1, ab_2, ab_3, ab_4] at *); exact ret_i (F5 (by omega) (badN_4 rfl (by decide) (by assumption)) (by omega) (by show (a.length : Int) = 1; omega) (by show (o.length : Int) < 1 ∨ (o.length : Int) > 1; omega)).symm)
            · rw [dec_f h6]
              conv => lhs; whnf
              refine iteK_dec (fun h7 => ?_) (fun h7 => ?_)
              · rw [dec_t h7]
                conv => lhs; whnf
                refine Eq.trans (b := some (Res.ret (AV.d (D.int IntKind.i64 (8 : Int))), [])) (by kernel_rfl) ?_
                ((try simp only [ea, ab_1, ab_2, ab_3, ab_4] at *); exact ret_i (F5 (by omega) (badN_4 rfl (by decide) (by assumption)) (by omega) (by show (a.length : Int) = 1; omega) (by show (o.length : Int) < 1 ∨ (o.length : Int) > 1; omega)).symm)
              · rw [dec_f h7]
                conv => lhs; whnf
                refine nextK_of (aop_ix rfl rfl rfl rfl (ixL_at' (n := 0) rfl (cellsL_get _ _ _ (hy (by (try simp only [ea, ab_1, ab_2, ab_3, ab_4] at *); omega)).1) rfl)) ?_
                conv => lhs; whnf
                refine nextK_of (hc (by (try simp only [ea, ab_1, ab_2, ab_3, ab_4] at *); omega)) ?_
                conv => lhs; whnf
                refine Eq.trans (b := some (Res.ret (AV.d (D.int IntKind.i64 (typedS y false))), [])) (by kernel_rfl) ?_
                ((try simp only [ea, ab_1, ab_2, ab_3, ab_4] at *); exact ret_i ((F6 (by omega) (badN_4 rfl (by decide) (by assumption)) (by omega) (by show (a.length : Int) = 1; omega) (by show ¬((o.length : Int) < 1 ∨ (o.length : Int) > 1); omega)).trans (hy (by omega)).2).symm)
  · conv => lhs; whnf
    refine Eq.trans (b := some (Res.ret (AV.d (D.int IntKind.i64 (1 : Int))), [])) (by kernel_rfl) ?_
    exact ret_i (F2 (by omega) (badN_3 rfl (by assumption))).symm
theorem fields34_7 (s : List UInt8) (n : Int) (a : List T) (o : List FlowT) (hs : s.length ≤ 140737488351232) (ha : SmL a) (hok : OkL a) (k : Nat) (hk : s.length + wtL a + 8 < k) :
    icall Try.prog cfg k 34 [.agg [.d (.int .i64 7), .d (.str s), .d (.int .i64 n), .d (.list (cellsL a)), .d (.list (o.map FlowT.cells))]] [] = some (.ret (.d (.int .i64 (fieldsS ⟨7, s, n, a, o⟩))), []) := by
  obtain ⟨k, rfl⟩ : ∃ j, k = j + 1 := ⟨k - 1, by omega⟩
  have hl := cellsL_len a
  have hl2 : (o.map FlowT.cells).length = o.length := List.length_map ..
  obtain ⟨y, hy, hy0⟩ := arg_first a
  have hwl := wtL_len a
  have hc : a.length ≠ 0 → icall Try.prog cfg k 71 [y.av, .d (.bool false)] [] = some (.ret (.d (.int .i64 (typedS y false))), []) := fun h => typed71 y false (SmL_mem ha (List.mem_of_getElem? (hy h).1)) (OkL_mem hok (List.mem_of_getElem? (hy h).1)) k (by have := wtL_mem a y (List.mem_of_getElem? (hy h).1); omega)
  have ea : asksK 7 = true := rfl
  have el : leastK 7 = 1 := rfl
  have em : mostK 7 = 1 := rfl
  rw [icall_body rfl Try.func34]
  obtain ⟨lp, hlp⟩ : ∃ lp, lp = lpOf Try.prog cfg (icall Try.prog cfg k) Try.f34.ntmps 34 k (([] : Hp).map (·.1)) := ⟨_, rfl⟩
  rw [← hlp]
  conv => lhs; whnf
  refine nextK_of (named67 7 k (by omega)) ?_
  conv => lhs; whnf
  refine iteK_not ?_
  conv => lhs; whnf
  refine iteK_beq (fun h1 => ?_) (fun h1 => ?_)
  · obtain rfl : s = [] := h1
    conv => lhs; whnf
    refine iteK_dec (fun h2 => ?_) (fun h2 => ?_)
    · rw [dec_t h2]
      conv => lhs; whnf
      refine Eq.trans (b := some (Res.ret (AV.d (D.int IntKind.i64 (2 : Int))), [])) (by kernel_rfl) ?_
      exact ret_i (F3 (by omega) (badN_1 rfl (by first | rfl | assumption)) (by omega)).symm
    · rw [dec_f h2]
      conv => lhs; whnf
      refine iteK_dec (fun h3 => ?_) (fun h3 => ?_)
      · rw [dec_t h3]
        conv => lhs; whnf
        refine Eq.trans (b := some (Res.ret (AV.d (D.int IntKind.i64 (2 : Int))), [])) (by kernel_rfl) ?_
        exact ret_i (F3 (by omega) (badN_1 rfl (by first | rfl | assumption)) (by omega)).symm
      · rw [dec_f h3]
        conv => lhs; whnf
        refine iteK_dec (fun h4 => ?_) (fun h4 => ?_)
        · rw [dec_t h4]
          conv => lhs; whnf
          refine nextK_of (numb68 7 k (by omega)) ?_
          conv => lhs; whnf
          refine Eq.trans (b := some (Res.ret (AV.d (D.int IntKind.i64 (2 : Int))), [])) (by kernel_rfl) ?_
          exact ret_i (F3 (by omega) (badN_1 rfl (by first | rfl | assumption)) (by omega)).symm
        · rw [dec_f h4]
          conv => lhs; whnf
          refine nextK_of (asks69 7 k (by omega)) ?_
          conv => lhs; whnf
          refine iteK_bne (fun h5 => ?_) (fun h5 => ?_)
          · rw [bne_t h5]
            conv => lhs; whnf
            refine Eq.trans (b := some (Res.ret (AV.d (D.int IntKind.i64 (1 : Int))), [])) (by kernel_rfl) ?_
            ((try simp only [ea, ab_1, ab_2, ab_3, ab_4] at *); exact ret_i (F4 (by omega) (badN_1 rfl (by first | rfl | assumption)) (by omega) (by show (a.length : Int) ≠ 1; omega)).symm)
          · rw [bne_f h5]
            conv => lhs; whnf
            refine nextK_of (ways70 7 k (by omega)) ?_
            conv => lhs; whnf
            refine iteK_dec (fun h6 => ?_) (fun h6 => ?_)
            · rw [dec_t h6]
              conv => lhs; whnf
              refine Eq.trans (b := some (Res.ret (AV.d (D.int IntKind.i64 (8 : Int))), [])) (by kernel_rfl) ?_
              ((try simp only [ea, ab_1, ab_2, ab_3, ab_4] at *); exact ret_i (F5 (by omega) (badN_1 rfl (by first | rfl | assumption)) (by omega) (by show (a.length : Int) = 1; omega) (by show (o.length : Int) < 1 ∨ (o.length : Int) > 1; omega)).symm)
            · rw [dec_f h6]
              conv => lhs; whnf
              refine iteK_dec (fun h7 => ?_) (fun h7 => ?_)
              · rw [dec_t h7]
                conv => lhs; whnf
                refine Eq.trans (b := some (Res.ret (AV.d (D.int IntKind.i64 (8 : Int))), [])) (by kernel_rfl) ?_
                ((try simp only [ea, ab_1, ab_2, ab_3, ab_4] at *); exact ret_i (F5 (by omega) (badN_1 rfl (by first | rfl | assumption)) (by omega) (by show (a.length : Int) = 1; omega) (by show (o.length : Int) < 1 ∨ (o.length : Int) > 1; omega)).symm)
              · rw [dec_f h7]
                conv => lhs; whnf
                refine nextK_of (aop_ix rfl rfl rfl rfl (ixL_at' (n := 0) rfl (cellsL_get _ _ _ (hy (by (try simp only [ea, ab_1, ab_2, ab_3, ab_4] at *); omega)).1) rfl)) ?_
                conv => lhs; whnf
                refine nextK_of (hc (by (try simp only [ea, ab_1, ab_2, ab_3, ab_4] at *); omega)) ?_
                conv => lhs; whnf
                refine Eq.trans (b := some (Res.ret (AV.d (D.int IntKind.i64 (typedS y false))), [])) (by kernel_rfl) ?_
                ((try simp only [ea, ab_1, ab_2, ab_3, ab_4] at *); exact ret_i ((F6 (by omega) (badN_1 rfl (by first | rfl | assumption)) (by omega) (by show (a.length : Int) = 1; omega) (by show ¬((o.length : Int) < 1 ∨ (o.length : Int) > 1); omega)).trans (hy (by omega)).2).symm)
  · rw [beq_f h1]
    conv => lhs; whnf
    refine Eq.trans (b := some (Res.ret (AV.d (D.int IntKind.i64 (1 : Int))), [])) (by kernel_rfl) ?_
    exact ret_i (F2 (by omega) (badN_2 rfl (by assumption))).symm
theorem fields34_8 (s : List UInt8) (n : Int) (a : List T) (o : List FlowT) (hs : s.length ≤ 140737488351232) (ha : SmL a) (hok : OkL a) (k : Nat) (hk : s.length + wtL a + 8 < k) :
    icall Try.prog cfg k 34 [.agg [.d (.int .i64 8), .d (.str s), .d (.int .i64 n), .d (.list (cellsL a)), .d (.list (o.map FlowT.cells))]] [] = some (.ret (.d (.int .i64 (fieldsS ⟨8, s, n, a, o⟩))), []) := by
  obtain ⟨k, rfl⟩ : ∃ j, k = j + 1 := ⟨k - 1, by omega⟩
  have hl := cellsL_len a
  have hl2 : (o.map FlowT.cells).length = o.length := List.length_map ..
  obtain ⟨y, hy, hy0⟩ := arg_first a
  have hwl := wtL_len a
  have hc : a.length ≠ 0 → icall Try.prog cfg k 71 [y.av, .d (.bool false)] [] = some (.ret (.d (.int .i64 (typedS y false))), []) := fun h => typed71 y false (SmL_mem ha (List.mem_of_getElem? (hy h).1)) (OkL_mem hok (List.mem_of_getElem? (hy h).1)) k (by have := wtL_mem a y (List.mem_of_getElem? (hy h).1); omega)
  have ea : asksK 8 = false := rfl
  have el : leastK 8 = 0 := rfl
  have em : mostK 8 = 0 := rfl
  rw [icall_body rfl Try.func34]
  obtain ⟨lp, hlp⟩ : ∃ lp, lp = lpOf Try.prog cfg (icall Try.prog cfg k) Try.f34.ntmps 34 k (([] : Hp).map (·.1)) := ⟨_, rfl⟩
  rw [← hlp]
  conv => lhs; whnf
  refine nextK_of (named67 8 k (by omega)) ?_
  conv => lhs; whnf
  refine iteK_not ?_
  conv => lhs; whnf
  refine iteK_beq (fun h1 => ?_) (fun h1 => ?_)
  · obtain rfl : s = [] := h1
    conv => lhs; whnf
    refine iteK_dec (fun h2 => ?_) (fun h2 => ?_)
    · rw [dec_t h2]
      conv => lhs; whnf
      refine Eq.trans (b := some (Res.ret (AV.d (D.int IntKind.i64 (2 : Int))), [])) (by kernel_rfl) ?_
      exact ret_i (F3 (by omega) (badN_1 rfl (by first | rfl | assumption)) (by omega)).symm
    · rw [dec_f h2]
      conv => lhs; whnf
      refine iteK_dec (fun h3 => ?_) (fun h3 => ?_)
      · rw [dec_t h3]
        conv => lhs; whnf
        refine Eq.trans (b := some (Res.ret (AV.d (D.int IntKind.i64 (2 : Int))), [])) (by kernel_rfl) ?_
        exact ret_i (F3 (by omega) (badN_1 rfl (by first | rfl | assumption)) (by omega)).symm
      · rw [dec_f h3]
        conv => lhs; whnf
        refine iteK_dec (fun h4 => ?_) (fun h4 => ?_)
        · rw [dec_t h4]
          conv => lhs; whnf
          refine nextK_of (numb68 8 k (by omega)) ?_
          conv => lhs; whnf
          refine Eq.trans (b := some (Res.ret (AV.d (D.int IntKind.i64 (2 : Int))), [])) (by kernel_rfl) ?_
          exact ret_i (F3 (by omega) (badN_1 rfl (by first | rfl | assumption)) (by omega)).symm
        · rw [dec_f h4]
          conv => lhs; whnf
          refine nextK_of (asks69 8 k (by omega)) ?_
          conv => lhs; whnf
          refine iteK_bne (fun h5 => ?_) (fun h5 => ?_)
          · rw [bne_t h5]
            conv => lhs; whnf
            refine Eq.trans (b := some (Res.ret (AV.d (D.int IntKind.i64 (1 : Int))), [])) (by kernel_rfl) ?_
            ((try simp only [ea, ab_1, ab_2, ab_3, ab_4] at *); exact ret_i (F4 (by omega) (badN_1 rfl (by first | rfl | assumption)) (by omega) (by show (a.length : Int) ≠ 0; omega)).symm)
          · rw [bne_f h5]
            conv => lhs; whnf
            refine nextK_of (ways70 8 k (by omega)) ?_
            conv => lhs; whnf
            refine iteK_dec (fun h6 => ?_) (fun h6 => ?_)
            · rw [dec_t h6]
              conv => lhs; whnf
              refine Eq.trans (b := some (Res.ret (AV.d (D.int IntKind.i64 (8 : Int))), [])) (by kernel_rfl) ?_
              ((try simp only [ea, ab_1, ab_2, ab_3, ab_4] at *); exact ret_i (F5 (by omega) (badN_1 rfl (by first | rfl | assumption)) (by omega) (by show (a.length : Int) = 0; omega) (by show (o.length : Int) < 0 ∨ (o.length : Int) > 0; omega)).symm)
            · rw [dec_f h6]
              conv => lhs; whnf
              refine Eq.trans (b := some (Res.ret (AV.d (D.int IntKind.i64 (0 : Int))), [])) (by kernel_rfl) ?_
              ((try simp only [ea, ab_1, ab_2, ab_3, ab_4] at *); exact ret_i ((F6 (by omega) (badN_1 rfl (by first | rfl | assumption)) (by omega) (by show (a.length : Int) = 0; omega) (by show ¬((o.length : Int) < 0 ∨ (o.length : Int) > 0); omega)).trans (hy0 (by omega))).symm)
  · rw [beq_f h1]
    conv => lhs; whnf
    refine Eq.trans (b := some (Res.ret (AV.d (D.int IntKind.i64 (1 : Int))), [])) (by kernel_rfl) ?_
    exact ret_i (F2 (by omega) (badN_2 rfl (by assumption))).symm
theorem fields34_9 (s : List UInt8) (n : Int) (a : List T) (o : List FlowT) (hs : s.length ≤ 140737488351232) (ha : SmL a) (hok : OkL a) (k : Nat) (hk : s.length + wtL a + 8 < k) :
    icall Try.prog cfg k 34 [.agg [.d (.int .i64 9), .d (.str s), .d (.int .i64 n), .d (.list (cellsL a)), .d (.list (o.map FlowT.cells))]] [] = some (.ret (.d (.int .i64 (fieldsS ⟨9, s, n, a, o⟩))), []) := by
  obtain ⟨k, rfl⟩ : ∃ j, k = j + 1 := ⟨k - 1, by omega⟩
  have hl := cellsL_len a
  have hl2 : (o.map FlowT.cells).length = o.length := List.length_map ..
  obtain ⟨y, hy, hy0⟩ := arg_first a
  have hwl := wtL_len a
  have hc : a.length ≠ 0 → icall Try.prog cfg k 71 [y.av, .d (.bool false)] [] = some (.ret (.d (.int .i64 (typedS y false))), []) := fun h => typed71 y false (SmL_mem ha (List.mem_of_getElem? (hy h).1)) (OkL_mem hok (List.mem_of_getElem? (hy h).1)) k (by have := wtL_mem a y (List.mem_of_getElem? (hy h).1); omega)
  have ea : asksK 9 = true := rfl
  have el : leastK 9 = 1 := rfl
  have em : mostK 9 = 1 := rfl
  rw [icall_body rfl Try.func34]
  obtain ⟨lp, hlp⟩ : ∃ lp, lp = lpOf Try.prog cfg (icall Try.prog cfg k) Try.f34.ntmps 34 k (([] : Hp).map (·.1)) := ⟨_, rfl⟩
  rw [← hlp]
  conv => lhs; whnf
  refine nextK_of (named67 9 k (by omega)) ?_
  conv => lhs; whnf
  refine nextK_b (refName_w s (by unfold lim; omega) k (by omega)) (fun h1 => ?_) (fun h1 => ?_)
  · conv => lhs; whnf
    refine iteK_beq (fun h2 => ?_) (fun h2 => ?_)
    · obtain rfl : s = [(121 : UInt8), (101 : UInt8), (115 : UInt8)] := h2
      conv => lhs; whnf
      refine Eq.trans (b := some (Res.ret (AV.d (D.int IntKind.i64 (1 : Int))), [])) (by kernel_rfl) ?_
      exact ret_i (F2 (by omega) (by first | exact badN_9b | exact badN_9c | exact badN_3 rfl (by assumption) | exact badN_9f (by assumption))).symm
    · rw [beq_f h2]
      conv => lhs; whnf
      refine iteK_beq (fun h3 => ?_) (fun h3 => ?_)
      · obtain rfl : s = [(110 : UInt8), (111 : UInt8)] := h3
        conv => lhs; whnf
        refine Eq.trans (b := some (Res.ret (AV.d (D.int IntKind.i64 (1 : Int))), [])) (by kernel_rfl) ?_
        exact ret_i (F2 (by omega) (by first | exact badN_9b | exact badN_9c | exact badN_3 rfl (by assumption) | exact badN_9f (by assumption))).symm
      · rw [beq_f h3]
        conv => lhs; whnf
        refine iteK_dec (fun h4 => ?_) (fun h4 => ?_)
        · rw [dec_t h4]
          conv => lhs; whnf
          refine Eq.trans (b := some (Res.ret (AV.d (D.int IntKind.i64 (2 : Int))), [])) (by kernel_rfl) ?_
          exact ret_i (F3 (by omega) (by first | exact badN_9 (by assumption) | exact badN_9a (by assumption) (by assumption) (by assumption)) (by omega)).symm
        · rw [dec_f h4]
          conv => lhs; whnf
          refine iteK_dec (fun h5 => ?_) (fun h5 => ?_)
          · rw [dec_t h5]
            conv => lhs; whnf
            refine Eq.trans (b := some (Res.ret (AV.d (D.int IntKind.i64 (2 : Int))), [])) (by kernel_rfl) ?_
            exact ret_i (F3 (by omega) (by first | exact badN_9 (by assumption) | exact badN_9a (by assumption) (by assumption) (by assumption)) (by omega)).symm
          · rw [dec_f h5]
            conv => lhs; whnf
            refine iteK_dec (fun h6 => ?_) (fun h6 => ?_)
            · rw [dec_t h6]
              conv => lhs; whnf
              refine nextK_of (numb68 9 k (by omega)) ?_
              conv => lhs; whnf
              refine Eq.trans (b := some (Res.ret (AV.d (D.int IntKind.i64 (2 : Int))), [])) (by kernel_rfl) ?_
              exact ret_i (F3 (by omega) (by first | exact badN_9 (by assumption) | exact badN_9a (by assumption) (by assumption) (by assumption)) (by omega)).symm
            · rw [dec_f h6]
              conv => lhs; whnf
              refine nextK_of (asks69 9 k (by omega)) ?_
              conv => lhs; whnf
              refine iteK_bne (fun h7 => ?_) (fun h7 => ?_)
              · rw [bne_t h7]
                conv => lhs; whnf
                refine Eq.trans (b := some (Res.ret (AV.d (D.int IntKind.i64 (1 : Int))), [])) (by kernel_rfl) ?_
                ((try simp only [ea, ab_1, ab_2, ab_3, ab_4] at *); exact ret_i (F4 (by omega) (by first | exact badN_9 (by assumption) | exact badN_9a (by assumption) (by assumption) (by assumption)) (by omega) (by show (a.length : Int) ≠ 1; omega)).symm)
              · rw [bne_f h7]
                conv => lhs; whnf
                refine nextK_of (ways70 9 k (by omega)) ?_
                conv => lhs; whnf
                refine iteK_dec (fun h8 => ?_) (fun h8 => ?_)
                · rw [dec_t h8]
                  conv => lhs; whnf
                  refine Eq.trans (b := some (Res.ret (AV.d (D.int IntKind.i64 (8 : Int))), [])) (by kernel_rfl) ?_
                  ((try simp only [ea, ab_1, ab_2, ab_3, ab_4] at *); exact ret_i (F5 (by omega) (by first | exact badN_9 (by assumption) | exact badN_9a (by assumption) (by assumption) (by assumption)) (by omega) (by show (a.length : Int) = 1; omega) (by show (o.length : Int) < 1 ∨ (o.length : Int) > 1; omega)).symm)
                · rw [dec_f h8]
                  conv => lhs; whnf
                  refine iteK_dec (fun h9 => ?_) (fun h9 => ?_)
                  · rw [dec_t h9]
                    conv => lhs; whnf
                    refine Eq.trans (b := some (Res.ret (AV.d (D.int IntKind.i64 (8 : Int))), [])) (by kernel_rfl) ?_
                    ((try simp only [ea, ab_1, ab_2, ab_3, ab_4] at *); exact ret_i (F5 (by omega) (by first | exact badN_9 (by assumption) | exact badN_9a (by assumption) (by assumption) (by assumption)) (by omega) (by show (a.length : Int) = 1; omega) (by show (o.length : Int) < 1 ∨ (o.length : Int) > 1; omega)).symm)
                  · rw [dec_f h9]
                    conv => lhs; whnf
                    refine nextK_of (aop_ix rfl rfl rfl rfl (ixL_at' (n := 0) rfl (cellsL_get _ _ _ (hy (by (try simp only [ea, ab_1, ab_2, ab_3, ab_4] at *); omega)).1) rfl)) ?_
                    conv => lhs; whnf
                    refine nextK_of (hc (by (try simp only [ea, ab_1, ab_2, ab_3, ab_4] at *); omega)) ?_
                    conv => lhs; whnf
                    refine Eq.trans (b := some (Res.ret (AV.d (D.int IntKind.i64 (typedS y false))), [])) (by kernel_rfl) ?_
                    ((try simp only [ea, ab_1, ab_2, ab_3, ab_4] at *); exact ret_i ((F6 (by omega) (by first | exact badN_9 (by assumption) | exact badN_9a (by assumption) (by assumption) (by assumption)) (by omega) (by show (a.length : Int) = 1; omega) (by show ¬((o.length : Int) < 1 ∨ (o.length : Int) > 1); omega)).trans (hy (by omega)).2).symm)
  · conv => lhs; whnf
    refine Eq.trans (b := some (Res.ret (AV.d (D.int IntKind.i64 (1 : Int))), [])) (by kernel_rfl) ?_
    exact ret_i (F2 (by omega) (by first | exact badN_9b | exact badN_9c | exact badN_3 rfl (by assumption) | exact badN_9f (by assumption))).symm
theorem fields34_0 (x : Int) (hx9 : ¬(1 ≤ x ∧ x ≤ 9)) (s : List UInt8) (n : Int) (a : List T) (o : List FlowT) (hs : s.length ≤ 140737488351232) (ha : SmL a) (hok : OkL a) (k : Nat) (hk : s.length + wtL a + 8 < k) :
    icall Try.prog cfg k 34 [.agg [.d (.int .i64 x), .d (.str s), .d (.int .i64 n), .d (.list (cellsL a)), .d (.list (o.map FlowT.cells))]] [] = some (.ret (.d (.int .i64 (fieldsS ⟨x, s, n, a, o⟩))), []) := by
  obtain ⟨k, rfl⟩ : ∃ j, k = j + 1 := ⟨k - 1, by omega⟩
  have hl := cellsL_len a
  have hl2 : (o.map FlowT.cells).length = o.length := List.length_map ..
  obtain ⟨y, hy, hy0⟩ := arg_first a
  have hwl := wtL_len a
  have hc : a.length ≠ 0 → icall Try.prog cfg k 71 [y.av, .d (.bool false)] [] = some (.ret (.d (.int .i64 (typedS y false))), []) := fun h => typed71 y false (SmL_mem ha (List.mem_of_getElem? (hy h).1)) (OkL_mem hok (List.mem_of_getElem? (hy h).1)) k (by have := wtL_mem a y (List.mem_of_getElem? (hy h).1); omega)
  rw [icall_body rfl Try.func34]
  obtain ⟨lp, hlp⟩ : ∃ lp, lp = lpOf Try.prog cfg (icall Try.prog cfg k) Try.f34.ntmps 34 k (([] : Hp).map (·.1)) := ⟨_, rfl⟩
  rw [← hlp]
  conv => lhs; whnf
  refine iteK_dec (fun h1 => ?_) (fun h1 => ?_)
  · rw [dec_t h1]
    conv => lhs; whnf
    refine Eq.trans (b := some (Res.ret (AV.d (D.int IntKind.i64 (1 : Int))), [])) (by kernel_rfl) ?_
    exact ret_i (F1 (by omega)).symm
  · rw [dec_f h1]
    conv => lhs; whnf
    refine iteK_dec (fun h2 => ?_) (fun h2 => ?_)
    · rw [dec_t h2]
      conv => lhs; whnf
      refine Eq.trans (b := some (Res.ret (AV.d (D.int IntKind.i64 (1 : Int))), [])) (by kernel_rfl) ?_
      exact ret_i (F1 (by omega)).symm
    · rw [dec_f h2]
      (exfalso; omega)
theorem fields34 (p : PlaceT) (hs : p.Sm) (ho : p.Ok) (k : Nat) (hk : p.wt ≤ k) : icall Try.prog cfg k 34 [p.av] [] = some (.ret (.d (.int .i64 (fieldsS p))), []) := by
  obtain ⟨x, s, n, a, o⟩ := p
  obtain ⟨h1, h2, h3⟩ := hs
  obtain ⟨g1, g2, g3, g4, g5, g6, g7⟩ := ho
  have hw : s.length + wtL a + wtS FlowT.wt o + 12 ≤ k := hk
  by_cases h : 1 ≤ x ∧ x ≤ 9
  · rcases (by omega : x = 1 ∨ x = 2 ∨ x = 3 ∨ x = 4 ∨ x = 5 ∨ x = 6 ∨ x = 7 ∨ x = 8 ∨ x = 9) with rfl | rfl | rfl | rfl | rfl | rfl | rfl | rfl | rfl
    · exact fields34_1 s n a o h1 h2 g5 k (by omega)
    · exact fields34_2 s n a o h1 h2 g5 k (by omega)
    · exact fields34_3 s n a o h1 h2 g5 k (by omega)
    · exact fields34_4 s n a o h1 h2 g5 k (by omega)
    · exact fields34_5 s n a o h1 h2 g5 k (by omega)
    · exact fields34_6 s n a o h1 h2 g5 k (by omega)
    · exact fields34_7 s n a o h1 h2 g5 k (by omega)
    · exact fields34_8 s n a o h1 h2 g5 k (by omega)
    · exact fields34_9 s n a o h1 h2 g5 k (by omega)
  · exact fields34_0 x h s n a o h1 h2 g5 k (by omega)
end Go.Rx11
end
