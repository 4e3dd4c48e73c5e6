/- A part of the proof of the law: what functions of the program come to, walked by Rx, or plain facts on it. -/
import Derived.Test.YtaghcidejnhahaaRxCfg12
import Derived.Test.YtaghcidejnhahaaRDefs
open Go Go.Rx Go.Proofs Go.Rx12 Go.RxTree
set_option maxRecDepth 1000000
set_option maxHeartbeats 4000000
set_option linter.unusedVariables false
set_option linter.unusedSimpArgs false
namespace Go.Rx12
theorem var65 (s : List UInt8) (hs : s.length ≤ 140737488351232) (k : Nat) (hk : s.length + 2 < k) : icall Try.prog cfg k 52 [.d (.str s)] [] = some (.ret (.d (.bool (nameOk s && (!(s == [121, 101, 115]) && !(s == [110, 111]))))), []) := by
  obtain ⟨k, rfl⟩ : ∃ j, k = j + 1 := ⟨k - 1, by omega⟩
  rw [icall_body rfl Try.func52]
  obtain ⟨lp, hlp⟩ : ∃ lp, lp = lpOf Try.prog cfg (icall Try.prog cfg k) Try.f52.ntmps 52 k (([] : Hp).map (·.1)) := ⟨_, rfl⟩
  rw [← hlp]
  conv => lhs; whnf
  refine nextK_b (packName_w s (by unfold lim; omega) k (by omega)) (fun h1 => ?_) (fun h1 => ?_)
  · conv => lhs; whnf
    refine iteK_not ?_
    conv => lhs; whnf
    refine iteK_beq (fun h2 => ?_) (fun h2 => ?_)
    · obtain rfl : s = [(121 : UInt8), (101 : UInt8), (115 : UInt8)] := h2
      conv => lhs; whnf
      refine Eq.trans (b := some (Res.ret (AV.d (D.bool false)), [])) (by kernel_rfl) ?_
      exact ret_b (by rw [beq_t (by first | rfl | assumption)]; simp)
    · rw [beq_f h2]
      conv => lhs; whnf
      refine Eq.trans (b := some (Res.ret (AV.d (D.bool !s == (ByteArray.mk #[(110 : UInt8), (111 : UInt8)]).data.toList)), [])) (by kernel_rfl) ?_
      exact ret_b (by simp [*])
  · conv => lhs; whnf
    refine Eq.trans (b := some (Res.ret (AV.d (D.bool false)), [])) (by kernel_rfl) ?_
    exact ret_b (by simp [*])
/-- What a kind has: a name, a number, a condition; how many flows, at least, at most; and whether it is one. -/
def ruleK (k : Int) : AV := .tuple [.agg [.d (.bool (namedK k)), .d (.bool (decide (k = 2))), .d (.bool (asksK k)), .d (.int .i64 (leastK k)), .d (.int .i64 (mostK k))], .d (.bool true)]
def noRule : AV := .tuple [.agg [.d (.bool false), .d (.bool false), .d (.bool false), .d (.int .i64 0), .d (.int .i64 0)], .d (.bool false)]
theorem of64 (x : Int) (h : 1 ≤ x ∧ x ≤ 9) (k : Nat) (hk : 0 < k) : icall Try.prog cfg k 51 [.d (.int .i64 x)] [] = some (.ret (ruleK x), []) := by
  obtain ⟨k, rfl⟩ : ∃ j, k = j + 1 := ⟨k - 1, by omega⟩
  rw [icall_body rfl Try.func51]
  obtain ⟨lp, hlp⟩ : ∃ lp, lp = lpOf Try.prog cfg (icall Try.prog cfg k) Try.f51.ntmps 51 k (([] : Hp).map (·.1)) := ⟨_, rfl⟩
  rw [← hlp]
  conv => lhs; whnf
  refine iteK_beq (fun h1 => ?_) (fun h1 => ?_)
  · obtain rfl : x = (1 : Int) := h1
    conv => lhs; whnf
    refine Eq.trans (b := some (Res.ret (AV.tuple [AV.agg [AV.d (D.bool false), AV.d (D.bool false), AV.d (D.bool false), AV.d (D.int IntKind.i64 (1 : Int)), AV.d (D.int IntKind.i64 (1 : Int))], AV.d (D.bool true)]), [])) (by kernel_rfl) ?_
    rfl
  · rw [beq_f h1]
    conv => lhs; whnf
    refine iteK_beq (fun h2 => ?_) (fun h2 => ?_)
    · obtain rfl : x = (5 : Int) := h2
      conv => lhs; whnf
      refine Eq.trans (b := some (Res.ret (AV.tuple [AV.agg [AV.d (D.bool false), AV.d (D.bool false), AV.d (D.bool false), AV.d (D.int IntKind.i64 (1 : Int)), AV.d (D.int IntKind.i64 (1 : Int))], AV.d (D.bool true)]), [])) (by kernel_rfl) ?_
      rfl
    · rw [beq_f h2]
      conv => lhs; whnf
      refine iteK_beq (fun h3 => ?_) (fun h3 => ?_)
      · obtain rfl : x = (2 : Int) := h3
        conv => lhs; whnf
        refine Eq.trans (b := some (Res.ret (AV.tuple [AV.agg [AV.d (D.bool true), AV.d (D.bool true), AV.d (D.bool false), AV.d (D.int IntKind.i64 (1 : Int)), AV.d (D.int IntKind.i64 (1 : Int))], AV.d (D.bool true)]), [])) (by kernel_rfl) ?_
        rfl
      · rw [beq_f h3]
        conv => lhs; whnf
        refine iteK_beq (fun h4 => ?_) (fun h4 => ?_)
        · obtain rfl : x = (3 : Int) := h4
          conv => lhs; whnf
          refine Eq.trans (b := some (Res.ret (AV.tuple [AV.agg [AV.d (D.bool false), AV.d (D.bool false), AV.d (D.bool false), AV.d (D.int IntKind.i64 (1 : Int)), AV.d (D.int IntKind.i64 (16 : Int))], AV.d (D.bool true)]), [])) (by kernel_rfl) ?_
          rfl
        · rw [beq_f h4]
          conv => lhs; whnf
          refine iteK_beq (fun h5 => ?_) (fun h5 => ?_)
          · obtain rfl : x = (4 : Int) := h5
            conv => lhs; whnf
            refine Eq.trans (b := some (Res.ret (AV.tuple [AV.agg [AV.d (D.bool false), AV.d (D.bool false), AV.d (D.bool false), AV.d (D.int IntKind.i64 (2 : Int)), AV.d (D.int IntKind.i64 (16 : Int))], AV.d (D.bool true)]), [])) (by kernel_rfl) ?_
            rfl
          · rw [beq_f h5]
            conv => lhs; whnf
            refine iteK_beq (fun h6 => ?_) (fun h6 => ?_)
            · obtain rfl : x = (6 : Int) := h6
              conv => lhs; whnf
              refine Eq.trans (b := some (Res.ret (AV.tuple [AV.agg [AV.d (D.bool true), AV.d (D.bool false), AV.d (D.bool true), AV.d (D.int IntKind.i64 (1 : Int)), AV.d (D.int IntKind.i64 (1 : Int))], AV.d (D.bool true)]), [])) (by kernel_rfl) ?_
              rfl
            · rw [beq_f h6]
              conv => lhs; whnf
              refine iteK_beq (fun h7 => ?_) (fun h7 => ?_)
              · obtain rfl : x = (9 : Int) := h7
                conv => lhs; whnf
                refine Eq.trans (b := some (Res.ret (AV.tuple [AV.agg [AV.d (D.bool true), AV.d (D.bool false), AV.d (D.bool true), AV.d (D.int IntKind.i64 (1 : Int)), AV.d (D.int IntKind.i64 (1 : Int))], AV.d (D.bool true)]), [])) (by kernel_rfl) ?_
                rfl
              · rw [beq_f h7]
                conv => lhs; whnf
                refine iteK_beq (fun h8 => ?_) (fun h8 => ?_)
                · obtain rfl : x = (7 : Int) := h8
                  conv => lhs; whnf
                  refine Eq.trans (b := some (Res.ret (AV.tuple [AV.agg [AV.d (D.bool false), AV.d (D.bool false), AV.d (D.bool true), AV.d (D.int IntKind.i64 (1 : Int)), AV.d (D.int IntKind.i64 (1 : Int))], AV.d (D.bool true)]), [])) (by kernel_rfl) ?_
                  rfl
                · rw [beq_f h8]
                  conv => lhs; whnf
                  refine iteK_beq (fun h9 => ?_) (fun h9 => ?_)
                  · obtain rfl : x = (8 : Int) := h9
                    conv => lhs; whnf
                    refine Eq.trans (b := some (Res.ret (AV.tuple [AV.agg [AV.d (D.bool false), AV.d (D.bool false), AV.d (D.bool false), AV.d (D.int IntKind.i64 (0 : Int)), AV.d (D.int IntKind.i64 (0 : Int))], AV.d (D.bool true)]), [])) (by kernel_rfl) ?_
                    rfl
                  · rw [beq_f h9]
                    (exfalso; omega)
theorem of64n (x : Int) (h : ¬(1 ≤ x ∧ x ≤ 9)) (k : Nat) (hk : 0 < k) : icall Try.prog cfg k 51 [.d (.int .i64 x)] [] = some (.ret noRule, []) := by
  obtain ⟨k, rfl⟩ : ∃ j, k = j + 1 := ⟨k - 1, by omega⟩
  rw [icall_body rfl Try.func51]
  obtain ⟨lp, hlp⟩ : ∃ lp, lp = lpOf Try.prog cfg (icall Try.prog cfg k) Try.f51.ntmps 51 k (([] : Hp).map (·.1)) := ⟨_, rfl⟩
  rw [← hlp]
  conv => lhs; whnf
  refine iteK_beq (fun h1 => ?_) (fun h1 => ?_)
  · obtain rfl : x = (1 : Int) := h1
    (exfalso; omega)
  · rw [beq_f h1]
    conv => lhs; whnf
    refine iteK_beq (fun h2 => ?_) (fun h2 => ?_)
    · obtain rfl : x = (5 : Int) := h2
      (exfalso; omega)
    · rw [beq_f h2]
      conv => lhs; whnf
      refine iteK_beq (fun h3 => ?_) (fun h3 => ?_)
      · obtain rfl : x = (2 : Int) := h3
        (exfalso; omega)
      · rw [beq_f h3]
        conv => lhs; whnf
        refine iteK_beq (fun h4 => ?_) (fun h4 => ?_)
        · obtain rfl : x = (3 : Int) := h4
          (exfalso; omega)
        · rw [beq_f h4]
          conv => lhs; whnf
          refine iteK_beq (fun h5 => ?_) (fun h5 => ?_)
          · obtain rfl : x = (4 : Int) := h5
            (exfalso; omega)
          · rw [beq_f h5]
            conv => lhs; whnf
            refine iteK_beq (fun h6 => ?_) (fun h6 => ?_)
            · obtain rfl : x = (6 : Int) := h6
              (exfalso; omega)
            · rw [beq_f h6]
              conv => lhs; whnf
              refine iteK_beq (fun h7 => ?_) (fun h7 => ?_)
              · obtain rfl : x = (9 : Int) := h7
                (exfalso; omega)
              · rw [beq_f h7]
                conv => lhs; whnf
                refine iteK_beq (fun h8 => ?_) (fun h8 => ?_)
                · obtain rfl : x = (7 : Int) := h8
                  (exfalso; omega)
                · rw [beq_f h8]
                  conv => lhs; whnf
                  refine iteK_beq (fun h9 => ?_) (fun h9 => ?_)
                  · obtain rfl : x = (8 : Int) := h9
                    (exfalso; omega)
                  · rw [beq_f h9]
                    conv => lhs; whnf
                    refine Eq.trans (b := some (Res.ret (AV.tuple [AV.agg [AV.d (D.bool false), AV.d (D.bool false), AV.d (D.bool false), AV.d (D.int IntKind.i64 (0 : Int)), AV.d (D.int IntKind.i64 (0 : Int))], AV.d (D.bool false)]), [])) (by kernel_rfl) ?_
                    rfl
theorem named67 (x : Int) (k : Nat) (hk : 0 < k) : icall Try.prog cfg k 45 [.d (.int .i64 x)] [] = some (.ret (.d (.bool (namedK x))), []) := by
  obtain ⟨k, rfl⟩ : ∃ j, k = j + 1 := ⟨k - 1, by omega⟩
  rw [icall_body rfl Try.func45]
  obtain ⟨lp, hlp⟩ : ∃ lp, lp = lpOf Try.prog cfg (icall Try.prog cfg k) Try.f45.ntmps 45 k (([] : Hp).map (·.1)) := ⟨_, rfl⟩
  rw [← hlp]
  conv => lhs; whnf
  refine iteK_beq (fun h1 => ?_) (fun h1 => ?_)
  · obtain rfl : x = (2 : Int) := h1
    conv => lhs; whnf
    refine Eq.trans (b := some (Res.ret (AV.d (D.bool true)), [])) (by kernel_rfl) ?_
    rfl
  · rw [beq_f h1]
    conv => lhs; whnf
    refine iteK_beq (fun h2 => ?_) (fun h2 => ?_)
    · obtain rfl : x = (6 : Int) := h2
      conv => lhs; whnf
      refine Eq.trans (b := some (Res.ret (AV.d (D.bool true)), [])) (by kernel_rfl) ?_
      rfl
    · rw [beq_f h2]
      conv => lhs; whnf
      refine Eq.trans (b := some (Res.ret (AV.d (D.bool (x == (9 : Int)))), [])) (by kernel_rfl) ?_
      exact ret_b (by unfold namedK; by_cases h : x = 9; (rw [beq_t h, dec_t (by omega)]); (rw [beq_f h, dec_f (by omega)]))
theorem asks69 (x : Int) (k : Nat) (hk : 0 < k) : icall Try.prog cfg k 47 [.d (.int .i64 x)] [] = some (.ret (.d (.bool (asksK x))), []) := by
  obtain ⟨k, rfl⟩ : ∃ j, k = j + 1 := ⟨k - 1, by omega⟩
  rw [icall_body rfl Try.func47]
  obtain ⟨lp, hlp⟩ : ∃ lp, lp = lpOf Try.prog cfg (icall Try.prog cfg k) Try.f47.ntmps 47 k (([] : Hp).map (·.1)) := ⟨_, rfl⟩
  rw [← hlp]
  conv => lhs; whnf
  refine iteK_beq (fun h1 => ?_) (fun h1 => ?_)
  · obtain rfl : x = (6 : Int) := h1
    conv => lhs; whnf
    refine Eq.trans (b := some (Res.ret (AV.d (D.bool true)), [])) (by kernel_rfl) ?_
    rfl
  · rw [beq_f h1]
    conv => lhs; whnf
    refine iteK_beq (fun h2 => ?_) (fun h2 => ?_)
    · obtain rfl : x = (7 : Int) := h2
      conv => lhs; whnf
      refine Eq.trans (b := some (Res.ret (AV.d (D.bool true)), [])) (by kernel_rfl) ?_
      rfl
    · rw [beq_f h2]
      conv => lhs; whnf
      refine Eq.trans (b := some (Res.ret (AV.d (D.bool (x == (9 : Int)))), [])) (by kernel_rfl) ?_
      exact ret_b (by unfold asksK; by_cases h : x = 9; (rw [beq_t h, dec_t (by omega)]); (rw [beq_f h, dec_f (by omega)]))
theorem numb68 (x : Int) (k : Nat) (hk : 0 < k) : icall Try.prog cfg k 46 [.d (.int .i64 x)] [] = some (.ret (.d (.bool (x == 2))), []) := by
  obtain ⟨k, rfl⟩ : ∃ j, k = j + 1 := ⟨k - 1, by omega⟩
  rw [icall_body rfl Try.func46]
  obtain ⟨lp, hlp⟩ : ∃ lp, lp = lpOf Try.prog cfg (icall Try.prog cfg k) Try.f46.ntmps 46 k (([] : Hp).map (·.1)) := ⟨_, rfl⟩
  rw [← hlp]
  conv => lhs; whnf
  refine Eq.trans (b := some (Res.ret (AV.d (D.bool (x == (2 : Int)))), [])) (by kernel_rfl) ?_
  rfl
theorem ways70 (x : Int) (k : Nat) (hk : 0 < k) : icall Try.prog cfg k 48 [.d (.int .i64 x)] [] = some (.ret (.tuple [.d (.int .i64 (leastK x)), .d (.int .i64 (mostK x))]), []) := by
  obtain ⟨k, rfl⟩ : ∃ j, k = j + 1 := ⟨k - 1, by omega⟩
  rw [icall_body rfl Try.func48]
  obtain ⟨lp, hlp⟩ : ∃ lp, lp = lpOf Try.prog cfg (icall Try.prog cfg k) Try.f48.ntmps 48 k (([] : Hp).map (·.1)) := ⟨_, rfl⟩
  rw [← hlp]
  conv => lhs; whnf
  refine iteK_beq (fun h1 => ?_) (fun h1 => ?_)
  · obtain rfl : x = (3 : Int) := h1
    conv => lhs; whnf
    refine Eq.trans (b := some (Res.ret (AV.tuple [AV.d (D.int IntKind.i64 (1 : Int)), AV.d (D.int IntKind.i64 (16 : Int))]), [])) (by kernel_rfl) ?_
    rfl
  · rw [beq_f h1]
    conv => lhs; whnf
    refine iteK_beq (fun h2 => ?_) (fun h2 => ?_)
    · obtain rfl : x = (4 : Int) := h2
      conv => lhs; whnf
      refine Eq.trans (b := some (Res.ret (AV.tuple [AV.d (D.int IntKind.i64 (2 : Int)), AV.d (D.int IntKind.i64 (16 : Int))]), [])) (by kernel_rfl) ?_
      rfl
    · rw [beq_f h2]
      conv => lhs; whnf
      refine iteK_beq (fun h3 => ?_) (fun h3 => ?_)
      · obtain rfl : x = (8 : Int) := h3
        conv => lhs; whnf
        refine Eq.trans (b := some (Res.ret (AV.tuple [AV.d (D.int IntKind.i64 (0 : Int)), AV.d (D.int IntKind.i64 (0 : Int))]), [])) (by kernel_rfl) ?_
        rfl
      · rw [beq_f h3]
        conv => lhs; whnf
        refine Eq.trans (b := some (Res.ret (AV.tuple [AV.d (D.int IntKind.i64 (1 : Int)), AV.d (D.int IntKind.i64 (1 : Int))]), [])) (by kernel_rfl) ?_
        (simp [leastK, mostK, *]; done)
end Go.Rx12
