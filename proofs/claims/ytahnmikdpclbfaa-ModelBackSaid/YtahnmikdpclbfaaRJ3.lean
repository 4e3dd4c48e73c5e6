/- A part of the proof of the law: what functions of the program come to, walked by Rx, or plain facts on it. -/
import Derived.Test.YtahnmikdpclbfaaRReadX
import Derived.Test.YtahnmikdpclbfaaRSpecM
import Derived.Test.YtahnmikdpclbfaaRSpecQ
section
open Go Go.Rx Go.Proofs Go.Rx11 Go.RxTree
set_option maxRecDepth 1000000
set_option maxHeartbeats 4000000
set_option linter.unusedVariables false
set_option linter.unusedSimpArgs false
namespace Go.Rx11
/-- A reader's two cells. -/
abbrev rdH (b : List UInt8) (e : Int) : Hp := [(.arg 0, .cells [.d (.list (bL b)), .d (.int .i64 e)])]
theorem keep79_0 (b q : List UInt8) (e : Int) (k : Nat) (hk : 0 < k) : icall Try.prog cfg k 79 [.ptr (.arg 0) 0, .d (.list (bL q)), .d (.int .i64 e)] (rdH b 0) = some (.ret (.tuple []), rdH q e) := by
  obtain ⟨k, rfl⟩ : ∃ j, k = j + 1 := ⟨k - 1, by omega⟩
  rw [icall_body rfl Try.func79]
  obtain ⟨lp, hlp⟩ : ∃ lp, lp = lpOf Try.prog cfg (icall Try.prog cfg k) Try.f79.ntmps 79 k ((rdH b 0).map (·.1)) := ⟨_, rfl⟩
  rw [← hlp]
  conv => lhs; whnf
  refine Eq.trans (b := some (Res.ret (AV.tuple []), [(Nm.arg (0 : Nat), AObj.cells [AV.d (D.list (bL q)), AV.d (D.int IntKind.i64 e)])])) (by kernel_rfl) ?_
  rfl
theorem keep79_e (b q : List UInt8) (e0 e : Int) (he : e0 ≠ 0) (k : Nat) (hk : 0 < k) : icall Try.prog cfg k 79 [.ptr (.arg 0) 0, .d (.list (bL q)), .d (.int .i64 e)] (rdH b e0) = some (.ret (.tuple []), rdH b e0) := by
  obtain ⟨k, rfl⟩ : ∃ j, k = j + 1 := ⟨k - 1, by omega⟩
  rw [icall_body rfl Try.func79]
  obtain ⟨lp, hlp⟩ : ∃ lp, lp = lpOf Try.prog cfg (icall Try.prog cfg k) Try.f79.ntmps 79 k ((rdH b e0).map (·.1)) := ⟨_, rfl⟩
  rw [← hlp]
  conv => lhs; whnf
  refine iteK_beq_f he ?_
  conv => lhs; whnf
  refine Eq.trans (b := some (Res.ret (AV.tuple []), [(Nm.arg (0 : Nat), AObj.cells [AV.d (D.list (bL b)), AV.d (D.int IntKind.i64 e0)])])) (by kernel_rfl) ?_
  rfl
theorem text49_e (b : List UInt8) (hb : b.length ≤ maxLen) (e0 : Int) (he : e0 ≠ 0) (k : Nat) (hk : 20 < k) : icall Try.prog cfg k 49 [.ptr (.arg 0) 0] (rdH b e0) = some (.ret (.d (.str [])), rdH b e0) := by
  obtain ⟨k, rfl⟩ : ∃ j, k = j + 1 := ⟨k - 1, by omega⟩
  have hc := readB73 b hb k (by omega)
  have hq := keep79_e b (rest b (rdB b).2.1 (rdB b).2.2) e0 (rdB b).2.2 he k (by omega)
  generalize rdB b = r at *
  obtain ⟨s, q, e⟩ := r
  rw [icall_body rfl Try.func49]
  obtain ⟨lp, hlp⟩ : ∃ lp, lp = lpOf Try.prog cfg (icall Try.prog cfg k) Try.f49.ntmps 49 k ((rdH b e0).map (·.1)) := ⟨_, rfl⟩
  rw [← hlp]
  conv => lhs; whnf
  refine nextK_of hc ?_
  conv => lhs; whnf
  refine nextK_of hq ?_
  conv => lhs; whnf
  refine iteK_bne_t he ?_
  conv => lhs; whnf
  refine Eq.trans (b := some (Res.ret (AV.d (D.str [])), [(Nm.arg (0 : Nat), AObj.cells [AV.d (D.list (bL b)), AV.d (D.int IntKind.i64 e0)])])) (by kernel_rfl) ?_
  rfl
theorem text49_0 (b : List UInt8) (hb : b.length ≤ maxLen) (k : Nat) (hk : 20 < k) : icall Try.prog cfg k 49 [.ptr (.arg 0) 0] (rdH b 0) = some (.ret (.d (.str (rdB b).1)), rdH (rest b (rdB b).2.1 (rdB b).2.2) (rdB b).2.2) := by
  obtain ⟨k, rfl⟩ : ∃ j, k = j + 1 := ⟨k - 1, by omega⟩
  have hc := readB73 b hb k (by omega)
  have hq := keep79_0 b (rest b (rdB b).2.1 (rdB b).2.2) (rdB b).2.2 k (by omega)
  have hr := (rdB_b b).2.1
  generalize rdB b = r at *
  obtain ⟨s, q, e⟩ := r
  dsimp only at hc hq hr ⊢
  by_cases h0 : e = 0
  · subst h0
    rw [icall_body rfl Try.func49]
    obtain ⟨lp, hlp⟩ : ∃ lp, lp = lpOf Try.prog cfg (icall Try.prog cfg k) Try.f49.ntmps 49 k ((rdH b 0).map (·.1)) := ⟨_, rfl⟩
    rw [← hlp]
    conv => lhs; whnf
    refine nextK_of hc ?_
    conv => lhs; whnf
    refine nextK_of hq ?_
    conv => lhs; whnf
    refine nextK_of (aop_text rfl rfl rfl rfl) ?_
    conv => lhs; whnf
    refine Eq.trans (b := some (Res.ret (AV.d (D.str s)), [(Nm.arg (0 : Nat), AObj.cells [AV.d (D.list (bL (rest b q (0 : Int)))), AV.d (D.int IntKind.i64 (0 : Int))])])) (by kernel_rfl) ?_
    rfl
  · obtain ⟨rfl, rfl⟩ := hr h0
    rw [icall_body rfl Try.func49]
    obtain ⟨lp, hlp⟩ : ∃ lp, lp = lpOf Try.prog cfg (icall Try.prog cfg k) Try.f49.ntmps 49 k ((rdH b 0).map (·.1)) := ⟨_, rfl⟩
    rw [← hlp]
    conv => lhs; whnf
    refine nextK_of hc ?_
    conv => lhs; whnf
    refine nextK_of hq ?_
    conv => lhs; whnf
    refine iteK_bne_t h0 ?_
    conv => lhs; whnf
    refine Eq.trans (b := some (Res.ret (AV.d (D.str [])), [(Nm.arg (0 : Nat), AObj.cells [AV.d (D.list (bL (rest b (0 : Nat) e))), AV.d (D.int IntKind.i64 e)])])) (by kernel_rfl) ?_
    rfl
theorem uint50_e (b : List UInt8) (hb : b.length ≤ maxLen) (most : Nat) (e0 : Int) (he : e0 ≠ 0) (k : Nat) (hk : 20 < k) : icall Try.prog cfg k 50 [.ptr (.arg 0) 0, .d (.int .u64 most)] (rdH b e0) = some (.ret (.d (.int .i64 0)), rdH b e0) := by
  obtain ⟨k, rfl⟩ : ∃ j, k = j + 1 := ⟨k - 1, by omega⟩
  have hc := readU80 b hb k (by omega)
  have hq := keep79_e b (rest b (rdU b).2.1 (rdU b).2.2) e0 (rdU b).2.2 he k (by omega)
  generalize rdU b = r at *
  obtain ⟨s, q, e⟩ := r
  rw [icall_body rfl Try.func50]
  obtain ⟨lp, hlp⟩ : ∃ lp, lp = lpOf Try.prog cfg (icall Try.prog cfg k) Try.f50.ntmps 50 k ((rdH b e0).map (·.1)) := ⟨_, rfl⟩
  rw [← hlp]
  conv => lhs; whnf
  refine nextK_of hc ?_
  conv => lhs; whnf
  refine nextK_of hq ?_
  conv => lhs; whnf
  refine iteK_beq_f he ?_
  conv => lhs; whnf
  refine iteK_beq_f he ?_
  conv => lhs; whnf
  refine iteK_beq_f he ?_
  conv => lhs; whnf
  refine iteK_beq_f he ?_
  conv => lhs; whnf
  refine iteK_bne_t he ?_
  conv => lhs; whnf
  refine Eq.trans (b := some (Res.ret (AV.d (D.int IntKind.i64 (0 : Int))), [(Nm.arg (0 : Nat), AObj.cells [AV.d (D.list (bL b)), AV.d (D.int IntKind.i64 e0)])])) (by kernel_rfl) ?_
  rfl
theorem uint50_0 (b : List UInt8) (hb : b.length ≤ maxLen) (most : Nat) (hmost : most ≤ 1000000) (k : Nat) (hk : 20 < k) : icall Try.prog cfg k 50 [.ptr (.arg 0) 0, .d (.int .u64 most)] (rdH b 0) = some (.ret (.d (.int .i64 (rdN most b).1)), rdH (mN most b) (rdN most b).2.2) := by
  obtain ⟨k, rfl⟩ : ∃ j, k = j + 1 := ⟨k - 1, by omega⟩
  have hc := readU80 b hb k (by omega)
  have hq := keep79_0 b (rest b (rdU b).2.1 (rdU b).2.2) (rdU b).2.2 k (by omega)
  obtain ⟨_, _, hr⟩ := rdU_b b
  unfold rdN mN
  generalize rdU b = r at *
  obtain ⟨n, q, e⟩ := r
  dsimp only at hc hq hr ⊢
  by_cases h0 : e = 0
  · subst h0
    rw [rest_0] at hc hq
    by_cases g1 : most < n
    · simp only [ne_eq, not_true_eq_false, if_false, if_pos g1]
      rw [icall_body rfl Try.func50]
      obtain ⟨lp, hlp⟩ : ∃ lp, lp = lpOf Try.prog cfg (icall Try.prog cfg k) Try.f50.ntmps 50 k ((rdH b 0).map (·.1)) := ⟨_, rfl⟩
      rw [← hlp]
      conv => lhs; whnf
      refine nextK_of hc ?_
      conv => lhs; whnf
      refine nextK_of hq ?_
      conv => lhs; whnf
      refine iteK_dec (fun h1 => ?_) (fun h1 => ?_)
      · rw [dec_t h1]
        conv => lhs; whnf
        refine Eq.trans (b := some (Res.ret (AV.d (D.int IntKind.i64 (0 : Int))), [(Nm.arg (0 : Nat), AObj.cells [AV.d (D.list (bL (List.drop q b))), AV.d (D.int IntKind.i64 (6 : Int))])])) (by kernel_rfl) ?_
        rfl
      · rw [dec_f h1]
        (exfalso; omega)
    · simp only [ne_eq, not_true_eq_false, if_false, if_neg g1]
      have hw : IntKind.i64.wrap (n : Int) = (n : Int) := Go.Rx.wrap_i64 (by omega) (by omega)
      rw [icall_body rfl Try.func50]
      obtain ⟨lp, hlp⟩ : ∃ lp, lp = lpOf Try.prog cfg (icall Try.prog cfg k) Try.f50.ntmps 50 k ((rdH b 0).map (·.1)) := ⟨_, rfl⟩
      rw [← hlp]
      conv => lhs; whnf
      refine nextK_of hc ?_
      conv => lhs; whnf
      refine nextK_of hq ?_
      conv => lhs; whnf
      refine iteK_dec (fun h1 => ?_) (fun h1 => ?_)
      · rw [dec_t h1]
        (exfalso; omega)
      · rw [dec_f h1]
        conv => lhs; whnf
        refine Eq.trans (b := some (Res.ret (AV.d (D.int IntKind.i64 (IntKind.wrap IntKind.i64 ↑n))), [(Nm.arg (0 : Nat), AObj.cells [AV.d (D.list (bL (List.drop q b))), AV.d (D.int IntKind.i64 (0 : Int))])])) (by kernel_rfl) ?_
        (exact congrArg (fun z => some (Res.ret (.d (.int .i64 z)), rdH (b.drop q) 0)) hw)
  · simp only [ne_eq, h0, not_false_eq_true, if_true]
    obtain ⟨rfl, rfl⟩ := hr h0
    rw [rest_e _ _ h0] at hc hq
    rw [icall_body rfl Try.func50]
    obtain ⟨lp, hlp⟩ : ∃ lp, lp = lpOf Try.prog cfg (icall Try.prog cfg k) Try.f50.ntmps 50 k ((rdH b 0).map (·.1)) := ⟨_, rfl⟩
    rw [← hlp]
    conv => lhs; whnf
    refine nextK_of hc ?_
    conv => lhs; whnf
    refine nextK_of hq ?_
    conv => lhs; whnf
    refine iteK_beq_f h0 ?_
    conv => lhs; whnf
    refine iteK_beq_f h0 ?_
    conv => lhs; whnf
    refine iteK_beq_f h0 ?_
    conv => lhs; whnf
    refine iteK_beq_f h0 ?_
    conv => lhs; whnf
    refine iteK_bne_t h0 ?_
    conv => lhs; whnf
    refine Eq.trans (b := some (Res.ret (AV.d (D.int IntKind.i64 (0 : Int))), [(Nm.arg (0 : Nat), AObj.cells [AV.d (D.list []), AV.d (D.int IntKind.i64 e)])])) (by kernel_rfl) ?_
    rfl
theorem one51_e (b : List UInt8) (e0 : Int) (he : e0 ≠ 0) (k : Nat) (hk : 0 < k) : icall Try.prog cfg k 51 [.ptr (.arg 0) 0] (rdH b e0) = some (.ret (.d (.int .i64 0)), rdH b e0) := by
  obtain ⟨k, rfl⟩ : ∃ j, k = j + 1 := ⟨k - 1, by omega⟩
  rw [icall_body rfl Try.func51]
  obtain ⟨lp, hlp⟩ : ∃ lp, lp = lpOf Try.prog cfg (icall Try.prog cfg k) Try.f51.ntmps 51 k ((rdH b e0).map (·.1)) := ⟨_, rfl⟩
  rw [← hlp]
  conv => lhs; whnf
  refine iteK_beq_f he ?_
  conv => lhs; whnf
  refine iteK_beq_f he ?_
  conv => lhs; whnf
  refine iteK_beq_f he ?_
  conv => lhs; whnf
  refine iteK_beq_f he ?_
  conv => lhs; whnf
  refine iteK_beq_f he ?_
  conv => lhs; whnf
  refine iteK_beq_f he ?_
  conv => lhs; whnf
  refine iteK_beq_f he ?_
  conv => lhs; whnf
  refine iteK_bne_t he ?_
  conv => lhs; whnf
  refine Eq.trans (b := some (Res.ret (AV.d (D.int IntKind.i64 (0 : Int))), [(Nm.arg (0 : Nat), AObj.cells [AV.d (D.list (bL b)), AV.d (D.int IntKind.i64 e0)])])) (by kernel_rfl) ?_
  rfl
theorem one51_0 (b : List UInt8) (k : Nat) (hk : 0 < k) : icall Try.prog cfg k 51 [.ptr (.arg 0) 0] (rdH b 0) = some (.ret (.d (.int .i64 (rdO b).1)), rdH (mO b) (rdO b).2.2) := by
  obtain ⟨k, rfl⟩ : ∃ j, k = j + 1 := ⟨k - 1, by omega⟩
  match b with
  | [] =>
    rw [icall_body rfl Try.func51]
    obtain ⟨lp, hlp⟩ : ∃ lp, lp = lpOf Try.prog cfg (icall Try.prog cfg k) Try.f51.ntmps 51 k ((rdH [] 0).map (·.1)) := ⟨_, rfl⟩
    rw [← hlp]
    conv => lhs; whnf
    refine Eq.trans (b := some (Res.ret (AV.d (D.int IntKind.i64 (0 : Int))), [(Nm.arg (0 : Nat), AObj.cells [AV.d (D.list []), AV.d (D.int IntKind.i64 (5 : Int))])])) (by kernel_rfl) ?_
    rfl
  | c :: r =>
    have hw := wci c
    obtain ⟨B, hB⟩ : ∃ B, B = c :: r := ⟨_, rfl⟩
    have hB0 : B[0]? = some c := by rw [hB]; rfl
    have hB1 : B.drop 1 = r := by rw [hB]; rfl
    have hBl : B.length = r.length + 1 := by rw [hB]; rfl
    have hBb := bL_len B
    show icall Try.prog cfg _ _ _ _ = some (.ret (.d (.int .i64 c.toNat)), rdH r 0)
    rw [← hB]
    rw [icall_body rfl Try.func51]
    obtain ⟨lp, hlp⟩ : ∃ lp, lp = lpOf Try.prog cfg (icall Try.prog cfg k) Try.f51.ntmps 51 k ((rdH B 0).map (·.1)) := ⟨_, rfl⟩
    rw [← hlp]
    conv => lhs; whnf
    refine iteK_beq (fun h1 => ?_) (fun h1 => ?_)
    · rw [beq_t h1]
      (exfalso; omega)
    · rw [beq_f h1]
      conv => lhs; whnf
      refine nextK_of (aop_ix rfl rfl rfl rfl (ixL_at' (n := 0) rfl (bL_get hB0) rfl)) ?_
      conv => lhs; whnf
      refine nextK_of (aop_from (a := 1) (y := r) rfl rfl rfl rfl rfl (by omega) hB1) ?_
      conv => lhs; whnf
      refine Eq.trans (b := some (Res.ret (AV.d (D.int IntKind.i64 (IntKind.wrap IntKind.i64 ↑c.toBitVec.toFin.1))), [(Nm.arg (0 : Nat), AObj.cells [AV.d (D.list (bL r)), AV.d (D.int IntKind.i64 (0 : Int))])])) (by kernel_rfl) ?_
      (exact congrArg (fun z => some (Res.ret (.d (.int .i64 z)), rdH r 0)) hw)
theorem maybe52_e (b : List UInt8) (e0 : Int) (he : e0 ≠ 0) (k : Nat) (hk : 1 < k) : icall Try.prog cfg k 52 [.ptr (.arg 0) 0] (rdH b e0) = some (.ret (.d (.list [])), rdH b e0) := by
  obtain ⟨k, rfl⟩ : ∃ j, k = j + 1 := ⟨k - 1, by omega⟩
  have hc := one51_e b e0 he k (by omega)
  rw [icall_body rfl Try.func52]
  obtain ⟨lp, hlp⟩ : ∃ lp, lp = lpOf Try.prog cfg (icall Try.prog cfg k) Try.f52.ntmps 52 k ((rdH b e0).map (·.1)) := ⟨_, rfl⟩
  rw [← hlp]
  conv => lhs; whnf
  refine nextK_of hc ?_
  conv => lhs; whnf
  refine Eq.trans (b := some (Res.ret (AV.d (D.list [])), [(Nm.arg (0 : Nat), AObj.cells [AV.d (D.list (bL b)), AV.d (D.int IntKind.i64 e0)])])) (by kernel_rfl) ?_
  rfl
theorem maybe52_0 (b : List UInt8) (hb : b.length ≤ 140737488351232) (k : Nat) (hk : (rdT 16 b.tail).1.wt + 60 < k) : icall Try.prog cfg k 52 [.ptr (.arg 0) 0] (rdH b 0) = some (.ret (.d (.list (cellsL (rdM b).1))), rdH (mM b) (rdM b).2.2) := by
  obtain ⟨k, rfl⟩ : ∃ j, k = j + 1 := ⟨k - 1, by omega⟩
  have hc := one51_0 b k (by omega)
  match b with
  | [] =>
    rw [icall_body rfl Try.func52]
    obtain ⟨lp, hlp⟩ : ∃ lp, lp = lpOf Try.prog cfg (icall Try.prog cfg k) Try.f52.ntmps 52 k ((rdH [] 0).map (·.1)) := ⟨_, rfl⟩
    rw [← hlp]
    conv => lhs; whnf
    refine nextK_of hc ?_
    conv => lhs; whnf
    refine Eq.trans (b := some (Res.ret (AV.d (D.list [])), [(Nm.arg (0 : Nat), AObj.cells [AV.d (D.list []), AV.d (D.int IntKind.i64 (5 : Int))])])) (by kernel_rfl) ?_
    rfl
  | c :: r =>
    have hx := readX15 r (by simp only [List.length_cons] at hb; omega) k (by simp only [List.tail_cons] at hk; omega)
    have hq := keep79_0 r (rest r (rdX r).2.1 (rdX r).2.2) (rdX r).2.2 k (by omega)
    obtain ⟨B, hB⟩ : ∃ B, B = c :: r := ⟨_, rfl⟩
    rw [rdM, mM]
    rw [← hB] at hc ⊢
    have e1 : rdO B = (c.toNat, 1, 0) := by rw [hB]; rfl
    have e2 : mO B = r := by rw [hB]; rfl
    rw [e1, e2] at hc
    dsimp only at hc
    by_cases g0 : c.toNat = 0
    · rw [if_pos g0, if_pos (.inl g0)]
      rw [g0] at hc
      rw [icall_body rfl Try.func52]
      obtain ⟨lp, hlp⟩ : ∃ lp, lp = lpOf Try.prog cfg (icall Try.prog cfg k) Try.f52.ntmps 52 k ((rdH B 0).map (·.1)) := ⟨_, rfl⟩
      rw [← hlp]
      conv => lhs; whnf
      refine nextK_of hc ?_
      conv => lhs; whnf
      refine Eq.trans (b := some (Res.ret (AV.d (D.list [])), [(Nm.arg (0 : Nat), AObj.cells [AV.d (D.list (bL r)), AV.d (D.int IntKind.i64 (0 : Int))])])) (by kernel_rfl) ?_
      rfl
    · rw [if_neg g0]
      by_cases g1 : 1 < c.toNat
      · rw [if_pos g1, if_pos (.inr g1)]
        rw [icall_body rfl Try.func52]
        obtain ⟨lp, hlp⟩ : ∃ lp, lp = lpOf Try.prog cfg (icall Try.prog cfg k) Try.f52.ntmps 52 k ((rdH B 0).map (·.1)) := ⟨_, rfl⟩
        rw [← hlp]
        conv => lhs; whnf
        refine nextK_of hc ?_
        conv => lhs; whnf
        refine iteK_dec (fun h1 => ?_) (fun h1 => ?_)
        · rw [dec_t h1]
          conv => lhs; whnf
          refine iteK_beq (fun h2 => ?_) (fun h2 => ?_)
          · rw [beq_t h2]
            (exfalso; omega)
          · rw [beq_f h2]
            conv => lhs; whnf
            refine Eq.trans (b := some (Res.ret (AV.d (D.list [])), [(Nm.arg (0 : Nat), AObj.cells [AV.d (D.list (bL r)), AV.d (D.int IntKind.i64 (3 : Int))])])) (by kernel_rfl) ?_
            rfl
        · rw [dec_f h1]
          (exfalso; omega)
      · rw [if_neg g1, if_neg (by omega)]
        have g2 : c.toNat = 1 := by omega
        rw [g2] at hc
        generalize rdX r = rx at *
        obtain ⟨⟨tk, tn, ts, tl⟩, q, e⟩ := rx
        rw [icall_body rfl Try.func52]
        obtain ⟨lp, hlp⟩ : ∃ lp, lp = lpOf Try.prog cfg (icall Try.prog cfg k) Try.f52.ntmps 52 k ((rdH B 0).map (·.1)) := ⟨_, rfl⟩
        rw [← hlp]
        conv => lhs; whnf
        refine nextK_of hc ?_
        conv => lhs; whnf
        refine nextK_of hx ?_
        conv => lhs; whnf
        refine nextK_of hq ?_
        conv => lhs; whnf
        refine Eq.trans (b := some (Res.ret (AV.d (D.list [[D.int IntKind.i64 (T.kind (T.mk tk tn ts tl, q, e).fst), D.int IntKind.i64 (T.n (T.mk tk tn ts tl, q, e).fst), D.str (T.name (T.mk tk tn ts tl, q, e).fst), D.list (cellsL (T.kids (T.mk tk tn ts tl, q, e).fst))]])), [(Nm.arg (0 : Nat), AObj.cells [AV.d (D.list (bL (rest r q e))), AV.d (D.int IntKind.i64 e)])])) (by kernel_rfl) ?_
        rfl
end Go.Rx11
end
section
open Go Go.Rx Go.Proofs Go.Rx11 Go.RxTree
set_option maxRecDepth 1000000
set_option maxHeartbeats 4000000
set_option linter.unusedVariables false
set_option linter.unusedSimpArgs false
namespace Go.Rx11
/-- The reference's reader: the bytes, the place, what is wrong. -/
abbrev rfH (B : List UInt8) (at' : Nat) (e : Int) : Hp := [(.arg 0, .cells [.d (.list (bL B)), .d (.int .i64 at'), .d (.int .i64 e)])]
theorem wadd {a q n : Nat} (h : a + q ≤ n) (hn : n ≤ 140737488351232) : IntKind.i64.wrap ((a : Int) + (q : Int)) = ((a + q : Nat) : Int) := by
  rw [Go.Rx.wrap_i64 (by omega) (by omega)]; omega
theorem text53_e (B : List UInt8) (a : Nat) (e0 : Int) (he : e0 ≠ 0) (k : Nat) (hk : 0 < k) : icall Try.prog cfg k 53 [.ptr (.arg 0) 0] (rfH B a e0) = some (.ret (.d (.str [])), rfH B a e0) := by
  obtain ⟨k, rfl⟩ : ∃ j, k = j + 1 := ⟨k - 1, by omega⟩
  rw [icall_body rfl Try.func53]
  obtain ⟨lp, hlp⟩ : ∃ lp, lp = lpOf Try.prog cfg (icall Try.prog cfg k) Try.f53.ntmps 53 k ((rfH B a e0).map (·.1)) := ⟨_, rfl⟩
  rw [← hlp]
  conv => lhs; whnf
  refine iteK_bne_t he ?_
  conv => lhs; whnf
  refine Eq.trans (b := some (Res.ret (AV.d (D.str [])), [(Nm.arg (0 : Nat), AObj.cells [AV.d (D.list (bL B)), AV.d (D.int IntKind.i64 ↑a), AV.d (D.int IntKind.i64 e0)])])) (by kernel_rfl) ?_
  rfl
theorem text53_0 (B : List UInt8) (hB : B.length ≤ 140737488351232) (a : Nat) (ha : a ≤ B.length) (k : Nat) (hk : 20 < k) : icall Try.prog cfg k 53 [.ptr (.arg 0) 0] (rfH B a 0) = some (.ret (.d (.str (rdB (B.drop a)).1)), rfH B (a + (rdB (B.drop a)).2.1) (rdB (B.drop a)).2.2) := by
  obtain ⟨k, rfl⟩ : ∃ j, k = j + 1 := ⟨k - 1, by omega⟩
  have hl : (B.drop a).length = B.length - a := List.length_drop ..
  have hmx : (140737488351232 : Nat) ≤ maxLen := by decide
  have hc := readB76 (B.drop a) (by omega) k (by omega)
  obtain ⟨r1, r2, _⟩ := rdB_b (B.drop a)
  generalize rdB (B.drop a) = r at *
  obtain ⟨s, q, e⟩ := r
  dsimp only at hc r1 r2 ⊢
  have hq : a + q ≤ B.length := by
    by_cases h : e = 0
    · have := (r1 h).1; omega
    · rw [(r2 h).2]; omega
  have hw := wadd hq hB
  rw [icall_body rfl Try.func53]
  obtain ⟨lp, hlp⟩ : ∃ lp, lp = lpOf Try.prog cfg (icall Try.prog cfg k) Try.f53.ntmps 53 k ((rfH B a 0).map (·.1)) := ⟨_, rfl⟩
  rw [← hlp]
  conv => lhs; whnf
  refine iteO_t (by kernel_rfl) ?_
  conv => lhs; whnf
  refine nextK_of (aop_from (z := B) (a := a) rfl rfl rfl rfl rfl ha rfl) ?_
  conv => lhs; whnf
  refine nextK_of hc ?_
  conv => lhs; whnf
  refine iteO_t (by kernel_rfl) ?_
  conv => lhs; whnf
  refine nextK_of (aop_text rfl rfl rfl rfl) ?_
  conv => lhs; whnf
  refine Eq.trans (b := some (Res.ret (AV.d (D.str s)), [(Nm.arg (0 : Nat), AObj.cells [AV.d (D.list (bL B)), AV.d (D.int IntKind.i64 (IntKind.wrap IntKind.i64 (↑a + ↑q))), AV.d (D.int IntKind.i64 e)])])) (by kernel_rfl) ?_
  (exact congrArg (fun z => some (Res.ret (.d (.str s)), ([(.arg 0, .cells [.d (.list (bL B)), .d (.int .i64 z), .d (.int .i64 e)])] : Hp))) hw)
theorem uint54_e (B : List UInt8) (a : Nat) (most : Nat) (e0 : Int) (he : e0 ≠ 0) (k : Nat) (hk : 0 < k) : icall Try.prog cfg k 54 [.ptr (.arg 0) 0, .d (.int .u64 most)] (rfH B a e0) = some (.ret (.d (.int .i64 0)), rfH B a e0) := by
  obtain ⟨k, rfl⟩ : ∃ j, k = j + 1 := ⟨k - 1, by omega⟩
  rw [icall_body rfl Try.func54]
  obtain ⟨lp, hlp⟩ : ∃ lp, lp = lpOf Try.prog cfg (icall Try.prog cfg k) Try.f54.ntmps 54 k ((rfH B a e0).map (·.1)) := ⟨_, rfl⟩
  rw [← hlp]
  conv => lhs; whnf
  refine iteK_bne_t he ?_
  conv => lhs; whnf
  refine Eq.trans (b := some (Res.ret (AV.d (D.int IntKind.i64 (0 : Int))), [(Nm.arg (0 : Nat), AObj.cells [AV.d (D.list (bL B)), AV.d (D.int IntKind.i64 ↑a), AV.d (D.int IntKind.i64 e0)])])) (by kernel_rfl) ?_
  rfl
theorem uint54_0 (B : List UInt8) (hB : B.length ≤ 140737488351232) (a : Nat) (ha : a ≤ B.length) (most : Nat) (hmost : most ≤ 1000000) (k : Nat) (hk : 20 < k) : icall Try.prog cfg k 54 [.ptr (.arg 0) 0, .d (.int .u64 most)] (rfH B a 0) = some (.ret (.d (.int .i64 (rdN most (B.drop a)).1)), rfH B (if (rdN most (B.drop a)).2.2 = 0 then a + (rdN most (B.drop a)).2.1 else a) (rdN most (B.drop a)).2.2) := by
  obtain ⟨k, rfl⟩ : ∃ j, k = j + 1 := ⟨k - 1, by omega⟩
  have hl : (B.drop a).length = B.length - a := List.length_drop ..
  have hmx : (140737488351232 : Nat) ≤ maxLen := by decide
  have hc := readU81 (B.drop a) (by omega) k (by omega)
  obtain ⟨r1, _, r2⟩ := rdU_b (B.drop a)
  unfold rdN
  generalize rdU (B.drop a) = r at *
  obtain ⟨n, q, e⟩ := r
  dsimp only at hc r1 r2 ⊢
  by_cases h0 : e = 0
  · subst h0
    have hw := wadd (a := a) (q := q) (by have := (r1 rfl).1; omega) hB
    by_cases g1 : most < n
    · simp only [ne_eq, not_true_eq_false, if_false, if_pos g1]
      rw [if_neg (by decide)]
      rw [icall_body rfl Try.func54]
      obtain ⟨lp, hlp⟩ : ∃ lp, lp = lpOf Try.prog cfg (icall Try.prog cfg k) Try.f54.ntmps 54 k ((rfH B a 0).map (·.1)) := ⟨_, rfl⟩
      rw [← hlp]
      conv => lhs; whnf
      refine iteO_t (by kernel_rfl) ?_
      conv => lhs; whnf
      refine nextK_of (aop_from (z := B) (a := a) rfl rfl rfl rfl rfl ha rfl) ?_
      conv => lhs; whnf
      refine nextK_of hc ?_
      conv => lhs; whnf
      refine iteO_t (by kernel_rfl) ?_
      conv => lhs; whnf
      refine iteK_dec (fun h1 => ?_) (fun h1 => ?_)
      · rw [dec_t h1]
        conv => lhs; whnf
        refine Eq.trans (b := some (Res.ret (AV.d (D.int IntKind.i64 (0 : Int))), [(Nm.arg (0 : Nat), AObj.cells [AV.d (D.list (bL B)), AV.d (D.int IntKind.i64 ↑a), AV.d (D.int IntKind.i64 (6 : Int))])])) (by kernel_rfl) ?_
        rfl
      · rw [dec_f h1]
        (exfalso; omega)
    · simp only [ne_eq, not_true_eq_false, if_false, if_neg g1, if_true]
      have hwn : IntKind.i64.wrap (n : Int) = (n : Int) := Go.Rx.wrap_i64 (by omega) (by omega)
      rw [icall_body rfl Try.func54]
      obtain ⟨lp, hlp⟩ : ∃ lp, lp = lpOf Try.prog cfg (icall Try.prog cfg k) Try.f54.ntmps 54 k ((rfH B a 0).map (·.1)) := ⟨_, rfl⟩
      rw [← hlp]
      conv => lhs; whnf
      refine iteO_t (by kernel_rfl) ?_
      conv => lhs; whnf
      refine nextK_of (aop_from (z := B) (a := a) rfl rfl rfl rfl rfl ha rfl) ?_
      conv => lhs; whnf
      refine nextK_of hc ?_
      conv => lhs; whnf
      refine iteO_t (by kernel_rfl) ?_
      conv => lhs; whnf
      refine iteK_dec (fun h1 => ?_) (fun h1 => ?_)
      · rw [dec_t h1]
        (exfalso; omega)
      · rw [dec_f h1]
        conv => lhs; whnf
        refine Eq.trans (b := some (Res.ret (AV.d (D.int IntKind.i64 (IntKind.wrap IntKind.i64 ↑n))), [(Nm.arg (0 : Nat), AObj.cells [AV.d (D.list (bL B)), AV.d (D.int IntKind.i64 (IntKind.wrap IntKind.i64 (↑a + ↑q))), AV.d (D.int IntKind.i64 (0 : Int))])])) (by kernel_rfl) ?_
        (exact (congrArg (fun z => some (Res.ret (.d (.int .i64 (IntKind.i64.wrap (n : Int)))), ([(.arg 0, .cells [.d (.list (bL B)), .d (.int .i64 z), .d (.int .i64 0)])] : Hp))) hw).trans (congrArg (fun z => some (Res.ret (.d (.int .i64 z)), rfH B (a + q) 0)) hwn))
  · simp only [ne_eq, h0, not_false_eq_true, if_true, if_false]
    obtain ⟨rfl, rfl⟩ := r2 h0
    rw [icall_body rfl Try.func54]
    obtain ⟨lp, hlp⟩ : ∃ lp, lp = lpOf Try.prog cfg (icall Try.prog cfg k) Try.f54.ntmps 54 k ((rfH B a 0).map (·.1)) := ⟨_, rfl⟩
    rw [← hlp]
    conv => lhs; whnf
    refine iteO_t (by kernel_rfl) ?_
    conv => lhs; whnf
    refine nextK_of (aop_from (z := B) (a := a) rfl rfl rfl rfl rfl ha rfl) ?_
    conv => lhs; whnf
    refine nextK_of hc ?_
    conv => lhs; whnf
    refine iteO_t (by kernel_rfl) ?_
    conv => lhs; whnf
    refine iteK_beq_f h0 ?_
    conv => lhs; whnf
    refine iteK_beq_f h0 ?_
    conv => lhs; whnf
    refine iteK_beq_f h0 ?_
    conv => lhs; whnf
    refine iteK_beq_f h0 ?_
    conv => lhs; whnf
    refine iteK_bne_t h0 ?_
    conv => lhs; whnf
    refine Eq.trans (b := some (Res.ret (AV.d (D.int IntKind.i64 (0 : Int))), [(Nm.arg (0 : Nat), AObj.cells [AV.d (D.list (bL B)), AV.d (D.int IntKind.i64 ↑a), AV.d (D.int IntKind.i64 e)])])) (by kernel_rfl) ?_
    rfl
theorem one82_e (B : List UInt8) (a : Nat) (e0 : Int) (he : e0 ≠ 0) (k : Nat) (hk : 0 < k) : icall Try.prog cfg k 82 [.ptr (.arg 0) 0] (rfH B a e0) = some (.ret (.d (.int .i64 0)), rfH B a e0) := by
  obtain ⟨k, rfl⟩ : ∃ j, k = j + 1 := ⟨k - 1, by omega⟩
  rw [icall_body rfl Try.func82]
  obtain ⟨lp, hlp⟩ : ∃ lp, lp = lpOf Try.prog cfg (icall Try.prog cfg k) Try.f82.ntmps 82 k ((rfH B a e0).map (·.1)) := ⟨_, rfl⟩
  rw [← hlp]
  conv => lhs; whnf
  refine iteK_bne_t he ?_
  conv => lhs; whnf
  refine Eq.trans (b := some (Res.ret (AV.d (D.int IntKind.i64 (0 : Int))), [(Nm.arg (0 : Nat), AObj.cells [AV.d (D.list (bL B)), AV.d (D.int IntKind.i64 ↑a), AV.d (D.int IntKind.i64 e0)])])) (by kernel_rfl) ?_
  rfl
theorem one82_0 (B : List UInt8) (hB : B.length ≤ 140737488351232) (a : Nat) (ha : a ≤ B.length) (k : Nat) (hk : 0 < k) : icall Try.prog cfg k 82 [.ptr (.arg 0) 0] (rfH B a 0) = some (.ret (.d (.int .i64 (rdO (B.drop a)).1)), rfH B (a + (rdO (B.drop a)).2.1) (rdO (B.drop a)).2.2) := by
  obtain ⟨k, rfl⟩ : ∃ j, k = j + 1 := ⟨k - 1, by omega⟩
  have hBb := bL_len B
  by_cases h : a < B.length
  · have hd : B.drop a = B[a] :: B.drop (a + 1) := List.drop_eq_getElem_cons h
    have hx : B[a]? = some B[a] := List.getElem?_eq_getElem h
    have hw : IntKind.i64.wrap ((a : Int) + 1) = ((a + 1 : Nat) : Int) := by rw [Go.Rx.wrap_i64 (by omega) (by omega)]; omega
    have hw2 : IntKind.i64.wrap (IntKind.i64.wrap ((a : Int) + 1) - 1) = ((a : Nat) : Int) := by rw [hw, Go.Rx.wrap_i64 (by omega) (by omega)]; omega
    generalize B[a] = c at *
    have hwc := wci c
    rw [hd]
    show icall Try.prog cfg _ _ _ _ = some (.ret (.d (.int .i64 c.toNat)), rfH B (a + 1) 0)
    rw [icall_body rfl Try.func82]
    obtain ⟨lp, hlp⟩ : ∃ lp, lp = lpOf Try.prog cfg (icall Try.prog cfg k) Try.f82.ntmps 82 k ((rfH B a 0).map (·.1)) := ⟨_, rfl⟩
    rw [← hlp]
    conv => lhs; whnf
    refine iteO_t (by kernel_rfl) ?_
    conv => lhs; whnf
    refine iteO_t (by kernel_rfl) ?_
    conv => lhs; whnf
    refine iteK_dec (fun h1 => ?_) (fun h1 => ?_)
    · rw [dec_t h1]
      (exfalso; omega)
    · rw [dec_f h1]
      conv => lhs; whnf
      refine iteO_t (by kernel_rfl) ?_
      conv => lhs; whnf
      refine nextK_of (aop_ix rfl rfl rfl rfl (ixL_at' (n := a) hw2 (bL_get hx) rfl)) ?_
      conv => lhs; whnf
      refine iteO_t (by kernel_rfl) ?_
      conv => lhs; whnf
      refine Eq.trans (b := some (Res.ret (AV.d (D.int IntKind.i64 (IntKind.wrap IntKind.i64 ↑c.toBitVec.toFin.1))), [(Nm.arg (0 : Nat), AObj.cells [AV.d (D.list (bL B)), AV.d (D.int IntKind.i64 (IntKind.wrap IntKind.i64 (↑a + (1 : Int)))), AV.d (D.int IntKind.i64 (0 : Int))])])) (by kernel_rfl) ?_
      (exact (congrArg (fun z => some (Res.ret (.d (.int .i64 (IntKind.i64.wrap (c.toNat : Int)))), ([(.arg 0, .cells [.d (.list (bL B)), .d (.int .i64 z), .d (.int .i64 0)])] : Hp))) hw).trans (congrArg (fun z => some (Res.ret (.d (.int .i64 z)), rfH B (a + 1) 0)) hwc))
  · rw [List.drop_eq_nil_of_le (by omega)]
    rw [icall_body rfl Try.func82]
    obtain ⟨lp, hlp⟩ : ∃ lp, lp = lpOf Try.prog cfg (icall Try.prog cfg k) Try.f82.ntmps 82 k ((rfH B a 0).map (·.1)) := ⟨_, rfl⟩
    rw [← hlp]
    conv => lhs; whnf
    refine iteO_t (by kernel_rfl) ?_
    conv => lhs; whnf
    refine iteO_t (by kernel_rfl) ?_
    conv => lhs; whnf
    refine iteK_dec (fun h1 => ?_) (fun h1 => ?_)
    · rw [dec_t h1]
      conv => lhs; whnf
      refine Eq.trans (b := some (Res.ret (AV.d (D.int IntKind.i64 (0 : Int))), [(Nm.arg (0 : Nat), AObj.cells [AV.d (D.list (bL B)), AV.d (D.int IntKind.i64 ↑a), AV.d (D.int IntKind.i64 (5 : Int))])])) (by kernel_rfl) ?_
      rfl
    · rw [dec_f h1]
      (exfalso; omega)
theorem maybe83_e (B : List UInt8) (a : Nat) (e0 : Int) (he : e0 ≠ 0) (k : Nat) (hk : 1 < k) : icall Try.prog cfg k 83 [.ptr (.arg 0) 0] (rfH B a e0) = some (.ret (.d (.list [])), rfH B a e0) := by
  obtain ⟨k, rfl⟩ : ∃ j, k = j + 1 := ⟨k - 1, by omega⟩
  have hc := one82_e B a e0 he k (by omega)
  rw [icall_body rfl Try.func83]
  obtain ⟨lp, hlp⟩ : ∃ lp, lp = lpOf Try.prog cfg (icall Try.prog cfg k) Try.f83.ntmps 83 k ((rfH B a e0).map (·.1)) := ⟨_, rfl⟩
  rw [← hlp]
  conv => lhs; whnf
  refine nextK_of hc ?_
  conv => lhs; whnf
  refine iteK_bne_t he ?_
  conv => lhs; whnf
  refine iteK_bne_t he ?_
  conv => lhs; whnf
  refine iteK_bne_t he ?_
  conv => lhs; whnf
  refine Eq.trans (b := some (Res.ret (AV.d (D.list [])), [(Nm.arg (0 : Nat), AObj.cells [AV.d (D.list (bL B)), AV.d (D.int IntKind.i64 ↑a), AV.d (D.int IntKind.i64 e0)])])) (by kernel_rfl) ?_
  rfl
theorem maybe83_0 (B : List UInt8) (hB : B.length ≤ 140737488351232) (a : Nat) (ha : a ≤ B.length) (k : Nat) (hk : (rdT 16 (B.drop a).tail).1.wt + 60 < k) : icall Try.prog cfg k 83 [.ptr (.arg 0) 0] (rfH B a 0) = some (.ret (.d (.list (cellsL (rdM (B.drop a)).1))), rfH B (a + (rdM (B.drop a)).2.1) (rdM (B.drop a)).2.2) := by
  obtain ⟨k, rfl⟩ : ∃ j, k = j + 1 := ⟨k - 1, by omega⟩
  have hc := one82_0 B hB a ha k (by omega)
  by_cases h : a < B.length
  · have hd : B.drop a = B[a] :: B.drop (a + 1) := List.drop_eq_getElem_cons h
    generalize B[a] = c at *
    rw [hd] at hc hk ⊢
    rw [List.tail_cons] at hk
    have e1 : rdO (c :: B.drop (a + 1)) = (c.toNat, 1, 0) := rfl
    rw [e1] at hc
    dsimp only at hc
    have hl : (B.drop (a + 1)).length = B.length - (a + 1) := List.length_drop ..
    have hx := readX16 (B.drop (a + 1)) (by omega) k (by omega)
    obtain ⟨r1, r2⟩ := rdX_b (B.drop (a + 1))
    rw [rdM]
    by_cases g0 : c.toNat = 0
    · rw [if_pos g0]
      rw [g0] at hc
      rw [icall_body rfl Try.func83]
      obtain ⟨lp, hlp⟩ : ∃ lp, lp = lpOf Try.prog cfg (icall Try.prog cfg k) Try.f83.ntmps 83 k ((rfH B a 0).map (·.1)) := ⟨_, rfl⟩
      rw [← hlp]
      conv => lhs; whnf
      refine nextK_of hc ?_
      conv => lhs; whnf
      refine Eq.trans (b := some (Res.ret (AV.d (D.list [])), [(Nm.arg (0 : Nat), AObj.cells [AV.d (D.list (bL B)), AV.d (D.int IntKind.i64 ↑(a + (1 : Nat))), AV.d (D.int IntKind.i64 (0 : Int))])])) (by kernel_rfl) ?_
      rfl
    · rw [if_neg g0]
      by_cases g1 : 1 < c.toNat
      · rw [if_pos g1]
        rw [icall_body rfl Try.func83]
        obtain ⟨lp, hlp⟩ : ∃ lp, lp = lpOf Try.prog cfg (icall Try.prog cfg k) Try.f83.ntmps 83 k ((rfH B a 0).map (·.1)) := ⟨_, rfl⟩
        rw [← hlp]
        conv => lhs; whnf
        refine nextK_of hc ?_
        conv => lhs; whnf
        refine iteK_beq (fun h1 => ?_) (fun h1 => ?_)
        · rw [beq_t h1]
          (exfalso; omega)
        · rw [beq_f h1]
          conv => lhs; whnf
          refine iteK_dec (fun h2 => ?_) (fun h2 => ?_)
          · rw [dec_t h2]
            conv => lhs; whnf
            refine Eq.trans (b := some (Res.ret (AV.d (D.list [])), [(Nm.arg (0 : Nat), AObj.cells [AV.d (D.list (bL B)), AV.d (D.int IntKind.i64 ↑(a + (1 : Nat))), AV.d (D.int IntKind.i64 (3 : Int))])])) (by kernel_rfl) ?_
            rfl
          · rw [dec_f h2]
            (exfalso; omega)
      · rw [if_neg g1]
        have g2 : c.toNat = 1 := by omega
        rw [g2] at hc
        generalize rdX (B.drop (a + 1)) = rx at *
        obtain ⟨⟨tk, tn, ts, tl⟩, q, e⟩ := rx
        dsimp only at hx r1 r2 ⊢
        have hq : a + 1 + q ≤ B.length := by
          by_cases h : e = 0
          · have := (r1 h).1; omega
          · have := r2 h
            injection this with _ this
            injection this with this _
            omega
        have hw : IntKind.i64.wrap (((a + 1 : Nat) : Int) + (q : Int)) = ((a + (1 + q) : Nat) : Int) := by rw [wadd hq hB]; omega
        rw [icall_body rfl Try.func83]
        obtain ⟨lp, hlp⟩ : ∃ lp, lp = lpOf Try.prog cfg (icall Try.prog cfg k) Try.f83.ntmps 83 k ((rfH B a 0).map (·.1)) := ⟨_, rfl⟩
        rw [← hlp]
        conv => lhs; whnf
        refine nextK_of hc ?_
        conv => lhs; whnf
        refine iteO_t (by kernel_rfl) ?_
        conv => lhs; whnf
        refine nextK_of (aop_from (z := B) (a := a + 1) rfl rfl rfl rfl rfl h rfl) ?_
        conv => lhs; whnf
        refine nextK_of hx ?_
        conv => lhs; whnf
        refine iteO_t (by kernel_rfl) ?_
        conv => lhs; whnf
        refine Eq.trans (b := some (Res.ret (AV.d (D.list [[D.int IntKind.i64 (T.kind (T.mk tk tn ts tl)), D.int IntKind.i64 (T.n (T.mk tk tn ts tl)), D.str (T.name (T.mk tk tn ts tl)), D.list (cellsL (T.kids (T.mk tk tn ts tl)))]])), [(Nm.arg (0 : Nat), AObj.cells [AV.d (D.list (bL B)), AV.d (D.int IntKind.i64 (IntKind.wrap IntKind.i64 (↑(a + (1 : Nat)) + ↑q))), AV.d (D.int IntKind.i64 e)])])) (by kernel_rfl) ?_
        (exact congrArg (fun z => some (Res.ret (.d (.list [[.int .i64 tk, .int .i64 tn, .str ts, .list (cellsL tl)]])), ([(.arg 0, .cells [.d (.list (bL B)), .d (.int .i64 z), .d (.int .i64 e)])] : Hp))) hw)
  · rw [List.drop_eq_nil_of_le (by omega)] at hc ⊢
    rw [icall_body rfl Try.func83]
    obtain ⟨lp, hlp⟩ : ∃ lp, lp = lpOf Try.prog cfg (icall Try.prog cfg k) Try.f83.ntmps 83 k ((rfH B a 0).map (·.1)) := ⟨_, rfl⟩
    rw [← hlp]
    conv => lhs; whnf
    refine nextK_of hc ?_
    conv => lhs; whnf
    refine Eq.trans (b := some (Res.ret (AV.d (D.list [])), [(Nm.arg (0 : Nat), AObj.cells [AV.d (D.list (bL B)), AV.d (D.int IntKind.i64 ↑(a + (rdO []).snd.fst)), AV.d (D.int IntKind.i64 (5 : Int))])])) (by kernel_rfl) ?_
    rfl
end Go.Rx11
end
section
open Go Go.Rx Go.Proofs Go.Rx11 Go.RxTree
set_option maxRecDepth 1000000
set_option maxHeartbeats 4000000
set_option linter.unusedVariables false
set_option linter.unusedSimpArgs false
namespace Go.Rx11
/-- What model's reader keeps stands for what is left; and the reference's. -/
def Rl (L : Nat) (mb : List UInt8) (s : Sg) : Prop := mb.length ≤ L ∧ s.1.length ≤ L ∧ (s.2 = 0 → mb = s.1)
def Rf (B : List UInt8) (a : Nat) (s : Sg) : Prop := a ≤ B.length ∧ s.1.length ≤ B.length ∧ (s.2 = 0 → s.1 = B.drop a)
abbrev LB : Nat := 140737488351232
section
variable {L : Nat} (hL : L ≤ LB) {mb : List UInt8} {s : Sg}
include hL
theorem qUint (most : Nat) (hm : most ≤ 1000000) (h : Rl L mb s) : ∃ mb', Rl L mb' (sN most s).2 ∧ ∀ k, 7 * L + 100 < k → icall Try.prog cfg k 50 [.ptr (.arg 0) 0, .d (.int .u64 most)] (rdH mb s.2) = some (.ret (.d (.int .i64 (sN most s).1)), rdH mb' (sN most s).2.2) := by
  obtain ⟨b, e⟩ := s
  obtain ⟨h1, h2, h3⟩ := h
  have hmx : LB ≤ maxLen := by decide
  dsimp only at h2 h3
  by_cases he : e = 0
  · subst he
    obtain rfl := h3 rfl
    refine ⟨mN most mb, ⟨Nat.le_trans (mN_len _ _) h1, Nat.le_trans (sN_len _ _) h1, fun h => ?_⟩, fun k hk => ?_⟩
    · have : (rdN most mb).2.2 = 0 := h
      show _ = rest mb (rdN most mb).2.1 (rdN most mb).2.2
      rw [mN_0 this, this]; rfl
    · exact uint50_0 mb (by omega) most hm k (by omega)
  · refine ⟨mb, ⟨h1, ?_, ?_⟩, fun k hk => ?_⟩ <;> rw [show sN most (b, e) = (0, b, e) from if_pos he]
    · exact h2
    · exact h3
    · exact uint50_e mb (by omega) most e he k (by omega)
theorem qText (h : Rl L mb s) : ∃ mb', Rl L mb' (sT s).2 ∧ ∀ k, 7 * L + 100 < k → icall Try.prog cfg k 49 [.ptr (.arg 0) 0] (rdH mb s.2) = some (.ret (.d (.str (sT s).1)), rdH mb' (sT s).2.2) := by
  obtain ⟨b, e⟩ := s
  obtain ⟨h1, h2, h3⟩ := h
  have hmx : LB ≤ maxLen := by decide
  dsimp only at h2 h3
  by_cases he : e = 0
  · subst he
    obtain rfl := h3 rfl
    exact ⟨rest mb (rdB mb).2.1 (rdB mb).2.2, ⟨Nat.le_trans (rest_len _ _ _) h1, Nat.le_trans (sT_len _) h1, fun h => rfl⟩, fun k hk => text49_0 mb (by omega) k (by omega)⟩
  · refine ⟨mb, ⟨h1, ?_, ?_⟩, fun k hk => ?_⟩ <;> rw [show sT (b, e) = ([], b, e) from if_pos he]
    · exact h2
    · exact h3
    · exact text49_e mb (by omega) e he k (by omega)
theorem qOne (h : Rl L mb s) : ∃ mb', Rl L mb' (sO s).2 ∧ ∀ k, 7 * L + 100 < k → icall Try.prog cfg k 51 [.ptr (.arg 0) 0] (rdH mb s.2) = some (.ret (.d (.int .i64 (sO s).1)), rdH mb' (sO s).2.2) := by
  have _hL := hL
  obtain ⟨b, e⟩ := s
  obtain ⟨h1, h2, h3⟩ := h
  dsimp only at h2 h3
  by_cases he : e = 0
  · subst he
    obtain rfl := h3 rfl
    refine ⟨mO mb, ⟨Nat.le_trans (mO_len _) h1, Nat.le_trans (sO_len _) h1, fun h => ?_⟩, fun k hk => one51_0 mb k (by omega)⟩
    have : (rdO mb).2.2 = 0 := h
    show _ = rest mb (rdO mb).2.1 (rdO mb).2.2
    rw [mO_0 this, this]; rfl
  · refine ⟨mb, ⟨h1, ?_, ?_⟩, fun k hk => ?_⟩ <;> rw [show sO (b, e) = (0, b, e) from if_pos he]
    · exact h2
    · exact h3
    · exact one51_e mb e he k (by omega)
theorem qMaybe (h : Rl L mb s) : ∃ mb', Rl L mb' (sM s).2 ∧ ∀ k, 7 * L + 100 < k → icall Try.prog cfg k 52 [.ptr (.arg 0) 0] (rdH mb s.2) = some (.ret (.d (.list (cellsL (sM s).1))), rdH mb' (sM s).2.2) := by
  obtain ⟨b, e⟩ := s
  obtain ⟨h1, h2, h3⟩ := h
  dsimp only at h2 h3
  by_cases he : e = 0
  · subst he
    obtain rfl := h3 rfl
    refine ⟨mM mb, ⟨Nat.le_trans (mM_len _) h1, Nat.le_trans (sM_len _) h1, fun h => ?_⟩, fun k hk => maybe52_0 mb (Nat.le_trans h1 hL) k (by have := rdT_most mb.tail; have := List.length_tail (l := mb); omega)⟩
    have : (rdM mb).2.2 = 0 := h
    show _ = rest mb (rdM mb).2.1 (rdM mb).2.2
    rw [mM_0 this, this]; rfl
  · refine ⟨mb, ⟨h1, ?_, ?_⟩, fun k hk => ?_⟩ <;> rw [show sM (b, e) = ([], b, e) from if_pos he]
    · exact h2
    · exact h3
    · exact maybe52_e mb e he k (by omega)
end
section
variable {B : List UInt8} (hB : B.length ≤ LB) {a : Nat} {s : Sg}
include hB
theorem rest_drop (a k : Nat) (e : Int) : e = 0 → rest (B.drop a) k e = B.drop (a + k) := fun h => by have _hB := hB; subst h; rw [rest_0, List.drop_drop]
theorem pUint (most : Nat) (hm : most ≤ 1000000) (h : Rf B a s) : ∃ a', Rf B a' (sN most s).2 ∧ ∀ k, 7 * B.length + 100 < k → icall Try.prog cfg k 54 [.ptr (.arg 0) 0, .d (.int .u64 most)] (rfH B a s.2) = some (.ret (.d (.int .i64 (sN most s).1)), rfH B a' (sN most s).2.2) := by
  obtain ⟨b, e⟩ := s
  obtain ⟨h1, h2, h3⟩ := h
  dsimp only at h2 h3
  by_cases he : e = 0
  · subst he
    obtain rfl := h3 rfl
    refine ⟨if (rdN most (B.drop a)).2.2 = 0 then a + (rdN most (B.drop a)).2.1 else a, ⟨?_, Nat.le_trans (sN_len _ _) h2, fun h => ?_⟩, fun k hk => uint54_0 B hB a h1 most hm k (by omega)⟩
    · split
      · rename_i h
        have := ((rdN_b most (B.drop a)).1 h).1
        rw [List.length_drop] at this; omega
      · exact h1
    · have : (rdN most (B.drop a)).2.2 = 0 := h
      rw [if_pos this]
      exact rest_drop hB a _ _ this
  · refine ⟨a, ⟨h1, ?_, ?_⟩, fun k hk => ?_⟩ <;> rw [show sN most (b, e) = (0, b, e) from if_pos he]
    · exact h2
    · exact h3
    · exact uint54_e B a most e he k (by omega)
theorem pText (h : Rf B a s) : ∃ a', Rf B a' (sT s).2 ∧ ∀ k, 7 * B.length + 100 < k → icall Try.prog cfg k 53 [.ptr (.arg 0) 0] (rfH B a s.2) = some (.ret (.d (.str (sT s).1)), rfH B a' (sT s).2.2) := by
  obtain ⟨b, e⟩ := s
  obtain ⟨h1, h2, h3⟩ := h
  dsimp only at h2 h3
  by_cases he : e = 0
  · subst he
    obtain rfl := h3 rfl
    refine ⟨a + (rdB (B.drop a)).2.1, ⟨?_, Nat.le_trans (sT_len _) h2, fun h => ?_⟩, fun k hk => text53_0 B hB a h1 k (by omega)⟩
    · by_cases h : (rdB (B.drop a)).2.2 = 0
      · have := ((rdB_b (B.drop a)).1 h).1
        rw [List.length_drop] at this; omega
      · rw [((rdB_b (B.drop a)).2.1 h).2]; omega
    · exact rest_drop hB a _ _ h
  · refine ⟨a, ⟨h1, ?_, ?_⟩, fun k hk => ?_⟩ <;> rw [show sT (b, e) = ([], b, e) from if_pos he]
    · exact h2
    · exact h3
    · exact text53_e B a e he k (by omega)
theorem pOne (h : Rf B a s) : ∃ a', Rf B a' (sO s).2 ∧ ∀ k, 7 * B.length + 100 < k → icall Try.prog cfg k 82 [.ptr (.arg 0) 0] (rfH B a s.2) = some (.ret (.d (.int .i64 (sO s).1)), rfH B a' (sO s).2.2) := by
  obtain ⟨b, e⟩ := s
  obtain ⟨h1, h2, h3⟩ := h
  dsimp only at h2 h3
  by_cases he : e = 0
  · subst he
    obtain rfl := h3 rfl
    refine ⟨a + (rdO (B.drop a)).2.1, ⟨?_, Nat.le_trans (sO_len _) h2, fun h => ?_⟩, fun k hk => one82_0 B hB a h1 k (by omega)⟩
    · have := (rdO_b (B.drop a)).2.1
      rw [List.length_drop] at this; omega
    · exact rest_drop hB a _ _ h
  · refine ⟨a, ⟨h1, ?_, ?_⟩, fun k hk => ?_⟩ <;> rw [show sO (b, e) = (0, b, e) from if_pos he]
    · exact h2
    · exact h3
    · exact one82_e B a e he k (by omega)
theorem pMaybe (h : Rf B a s) : ∃ a', Rf B a' (sM s).2 ∧ ∀ k, 7 * B.length + 100 < k → icall Try.prog cfg k 83 [.ptr (.arg 0) 0] (rfH B a s.2) = some (.ret (.d (.list (cellsL (sM s).1))), rfH B a' (sM s).2.2) := by
  obtain ⟨b, e⟩ := s
  obtain ⟨h1, h2, h3⟩ := h
  dsimp only at h2 h3
  by_cases he : e = 0
  · subst he
    obtain rfl := h3 rfl
    refine ⟨a + (rdM (B.drop a)).2.1, ⟨?_, Nat.le_trans (sM_len _) h2, fun h => ?_⟩, fun k hk => maybe83_0 B hB a h1 k (by have h5 := rdT_most (B.drop a).tail; rw [List.length_tail, List.length_drop] at h5; omega)⟩
    · have := rdM_b (B.drop a)
      rw [List.length_drop] at this; omega
    · exact rest_drop hB a _ _ h
  · refine ⟨a, ⟨h1, ?_, ?_⟩, fun k hk => ?_⟩ <;> rw [show sM (b, e) = ([], b, e) from if_pos he]
    · exact h2
    · exact h3
    · exact maybe83_e B a e he k (by omega)
end
end Go.Rx11
end
section
open Go Go.Rx Go.Proofs Go.Rx11 Go.RxTree
set_option maxRecDepth 1000000
set_option maxHeartbeats 4000000
set_option linter.unusedVariables false
set_option linter.unusedSimpArgs false
namespace Go.Rx11
theorem lenF {n : Nat} (h : n ≤ 50000000) : (n + 1) * (32 + 1) ≤ lim := by unfold lim; omega
theorem sFlows_e (n : Nat) {s : Sg} (h : s.2 ≠ 0) : sFlows n s = ([], s) := by
  cases n with
  | zero => rfl
  | succ n => rw [sFlows, if_pos h]
theorem sFlows_1 (n : Nat) {s : Sg} (h : s.2 = 0) : sFlows (n + 1) s = ((sFlow s).1 :: (sFlows n (sFlow s).2).1, (sFlows n (sFlow s).2).2) := by
  rw [sFlows, if_neg (by omega)]
theorem p55E (j : Nat) (B : List UInt8) (hB : B.length ≤ LB) (hj : 7 * B.length + 100 < j) (kd : Int) (nm : List UInt8) (nv : Int) (al : List (List D)) (n : Nat) (hn16 : n ≤ 1000000) {lp : LP} {e0 : Int} {a0 : Nat} (hlp : lp = lpOf Try.prog cfg (icall Try.prog cfg j) Try.f55.ntmps 55 j ((rfH B a0 e0).map (·.1))) (s : Sg) (a : Nat) (e : Int) (z : Int) (he : e ≠ 0 ∨ ¬ z < (n : Int)) (lf : Nat) (hlf : 0 < lf) (st : St)
    (hp : prune [Nm.arg 0] [0, 2, 3, 4, 5] st = some ⟨[(0, .ptr (.arg 0) 0), (2, .ptr (.slot 2) 0), (3, .ptr (.slot 3) 0), (4, .d (.int .i64 n)), (5, .d (.int .i64 z))], [(.arg 0, .cells [.d (.list (bL B)), .d (.int .i64 a), .d (.int .i64 e)]), (.slot 2, .cells [.d (.int .i64 0), .d (.str []), .d (.int .i64 0), .nilsl, .nilsl]), (.slot 3, .cells [.d (.int .i64 kd), .d (.str nm), .d (.int .i64 nv), .d (.list al), .nilsl])]⟩) :
    loopK Try.prog cfg (icall Try.prog cfg j) lp Try.f55.ntmps 55 [Nm.arg 0] (bodyAt Try.f55 8) lf st (exitP [Nm.arg 0] (some [2, 3])) = some (.exit 0, ⟨[(2, .ptr (.slot 2) 0), (3, .ptr (.slot 3) 0)], [(.arg 0, .cells [.d (.list (bL B)), .d (.int .i64 a), .d (.int .i64 e)]), (.slot 2, .cells [.d (.int .i64 0), .d (.str []), .d (.int .i64 0), .nilsl, .nilsl]), (.slot 3, .cells [.d (.int .i64 kd), .d (.str nm), .d (.int .i64 nv), .d (.list al), .nilsl])]⟩) := by
  obtain ⟨lf, rfl⟩ : ∃ n, lf = n + 1 := ⟨lf - 1, by omega⟩
  refine loop_step hp ?_
  conv => lhs; whnf
  refine iteK_dec (fun h1 => ?_) (fun h1 => ?_)
  · rw [dec_t h1]
    conv => lhs; whnf
    refine iteK_beq (fun h2 => ?_) (fun h2 => ?_)
    · obtain rfl : e = (0 : Int) := h2
      (exfalso; omega)
    · rw [beq_f h2]
      conv => lhs; whnf
      refine Eq.trans (b := some (Fx.exit (0 : Nat), St.mk [((2 : Nat), AV.ptr (Nm.slot (2 : Nat)) (0 : Nat)), ((3 : Nat), AV.ptr (Nm.slot (3 : Nat)) (0 : Nat))] [(Nm.arg (0 : Nat), AObj.cells [AV.d (D.list (bL B)), AV.d (D.int IntKind.i64 ↑a), AV.d (D.int IntKind.i64 e)]), (Nm.slot (2 : Nat), AObj.cells [AV.d (D.int IntKind.i64 (0 : Int)), AV.d (D.str []), AV.d (D.int IntKind.i64 (0 : Int)), AV.nilsl, AV.nilsl]), (Nm.slot (3 : Nat), AObj.cells [AV.d (D.int IntKind.i64 kd), AV.d (D.str nm), AV.d (D.int IntKind.i64 nv), AV.d (D.list al), AV.nilsl])])) (by kernel_rfl) ?_
      rfl
  · rw [dec_f h1]
    conv => lhs; whnf
    refine Eq.trans (b := some (Fx.exit (0 : Nat), St.mk [((2 : Nat), AV.ptr (Nm.slot (2 : Nat)) (0 : Nat)), ((3 : Nat), AV.ptr (Nm.slot (3 : Nat)) (0 : Nat))] [(Nm.arg (0 : Nat), AObj.cells [AV.d (D.list (bL B)), AV.d (D.int IntKind.i64 ↑a), AV.d (D.int IntKind.i64 e)]), (Nm.slot (2 : Nat), AObj.cells [AV.d (D.int IntKind.i64 (0 : Int)), AV.d (D.str []), AV.d (D.int IntKind.i64 (0 : Int)), AV.nilsl, AV.nilsl]), (Nm.slot (3 : Nat), AObj.cells [AV.d (D.int IntKind.i64 kd), AV.d (D.str nm), AV.d (D.int IntKind.i64 nv), AV.d (D.list al), AV.nilsl])])) (by kernel_rfl) ?_
    rfl
theorem p55F (j : Nat) (B : List UInt8) (hB : B.length ≤ LB) (hj : 7 * B.length + 100 < j) (kd : Int) (nm : List UInt8) (nv : Int) (al : List (List D)) (n : Nat) (hn16 : n ≤ 1000000) {lp : LP} {e0 : Int} {a0 : Nat} (hlp : lp = lpOf Try.prog cfg (icall Try.prog cfg j) Try.f55.ntmps 55 j ((rfH B a0 e0).map (·.1))) (es : List (List D)) (l : Nat) (s : Sg) (a : Nat) (e : Int) (z : Int) (he : e ≠ 0 ∨ ¬ z < (n : Int)) (lf : Nat) (hlf : 0 < lf) (st : St)
    (hp : prune [Nm.arg 0] [0, 2, 3, 4, 5] st = some ⟨[(0, .ptr (.arg 0) 0), (2, .ptr (.slot 2) 0), (3, .ptr (.slot 3) 0), (4, .d (.int .i64 n)), (5, .d (.int .i64 z))], [(.arg 0, .cells [.d (.list (bL B)), .d (.int .i64 a), .d (.int .i64 e)]), (.slot 2, .cells [.d (.int .i64 0), .d (.str []), .d (.int .i64 0), .nilsl, .nilsl]), (.slot 3, .cells [.d (.int .i64 kd), .d (.str nm), .d (.int .i64 nv), .d (.list al), .own (.slot 45) 0 l]), (.slot 45, .arr 71 2 0 es)]⟩) :
    loopK Try.prog cfg (icall Try.prog cfg j) lp Try.f55.ntmps 55 [Nm.arg 0] (bodyAt Try.f55 8) lf st (exitP [Nm.arg 0] (some [2, 3])) = some (.exit 0, ⟨[(2, .ptr (.slot 2) 0), (3, .ptr (.slot 3) 0)], [(.arg 0, .cells [.d (.list (bL B)), .d (.int .i64 a), .d (.int .i64 e)]), (.slot 2, .cells [.d (.int .i64 0), .d (.str []), .d (.int .i64 0), .nilsl, .nilsl]), (.slot 3, .cells [.d (.int .i64 kd), .d (.str nm), .d (.int .i64 nv), .d (.list al), .own (.slot 45) 0 l]), (.slot 45, .arr 71 2 0 es)]⟩) := by
  obtain ⟨lf, rfl⟩ : ∃ n, lf = n + 1 := ⟨lf - 1, by omega⟩
  refine loop_step hp ?_
  conv => lhs; whnf
  refine iteK_dec (fun h1 => ?_) (fun h1 => ?_)
  · rw [dec_t h1]
    conv => lhs; whnf
    refine iteK_beq (fun h2 => ?_) (fun h2 => ?_)
    · obtain rfl : e = (0 : Int) := h2
      (exfalso; omega)
    · rw [beq_f h2]
      conv => lhs; whnf
      refine Eq.trans (b := some (Fx.exit (0 : Nat), St.mk [((2 : Nat), AV.ptr (Nm.slot (2 : Nat)) (0 : Nat)), ((3 : Nat), AV.ptr (Nm.slot (3 : Nat)) (0 : Nat))] [(Nm.arg (0 : Nat), AObj.cells [AV.d (D.list (bL B)), AV.d (D.int IntKind.i64 ↑a), AV.d (D.int IntKind.i64 e)]), (Nm.slot (2 : Nat), AObj.cells [AV.d (D.int IntKind.i64 (0 : Int)), AV.d (D.str []), AV.d (D.int IntKind.i64 (0 : Int)), AV.nilsl, AV.nilsl]), (Nm.slot (3 : Nat), AObj.cells [AV.d (D.int IntKind.i64 kd), AV.d (D.str nm), AV.d (D.int IntKind.i64 nv), AV.d (D.list al), AV.own (Nm.slot (45 : Nat)) (nat_lit 0) l]), (Nm.slot (45 : Nat), AObj.arr (71 : Nat) (2 : Nat) (nat_lit 0) es)])) (by kernel_rfl) ?_
      rfl
  · rw [dec_f h1]
    conv => lhs; whnf
    refine Eq.trans (b := some (Fx.exit (0 : Nat), St.mk [((2 : Nat), AV.ptr (Nm.slot (2 : Nat)) (0 : Nat)), ((3 : Nat), AV.ptr (Nm.slot (3 : Nat)) (0 : Nat))] [(Nm.arg (0 : Nat), AObj.cells [AV.d (D.list (bL B)), AV.d (D.int IntKind.i64 ↑a), AV.d (D.int IntKind.i64 e)]), (Nm.slot (2 : Nat), AObj.cells [AV.d (D.int IntKind.i64 (0 : Int)), AV.d (D.str []), AV.d (D.int IntKind.i64 (0 : Int)), AV.nilsl, AV.nilsl]), (Nm.slot (3 : Nat), AObj.cells [AV.d (D.int IntKind.i64 kd), AV.d (D.str nm), AV.d (D.int IntKind.i64 nv), AV.d (D.list al), AV.own (Nm.slot (45 : Nat)) (nat_lit 0) l]), (Nm.slot (45 : Nat), AObj.arr (71 : Nat) (2 : Nat) (nat_lit 0) es)])) (by kernel_rfl) ?_
    rfl
theorem p55L (j : Nat) (B : List UInt8) (hB : B.length ≤ LB) (hj : 7 * B.length + 100 < j) (kd : Int) (nm : List UInt8) (nv : Int) (al : List (List D)) (n : Nat) (hn16 : n ≤ 1000000) {lp : LP} {e0 : Int} {a0 : Nat} (hlp : lp = lpOf Try.prog cfg (icall Try.prog cfg j) Try.f55.ntmps 55 j ((rfH B a0 e0).map (·.1))) :
    ∀ (m i : Nat) (z : Int) (s : Sg) (a : Nat) (e : Int) (l : Nat) (es : List (List D)), n - i = m → i ≤ n → z = (i : Int) → Rf B a s → s.2 = e → es.length = l → l ≤ 2000000 + i →
    ∃ a', Rf B a' (sFlows m s).2 ∧ ∀ (lf : Nat) (st : St), m + 1 < lf → prune [Nm.arg 0] [0, 2, 3, 4, 5] st = some ⟨[(0, .ptr (.arg 0) 0), (2, .ptr (.slot 2) 0), (3, .ptr (.slot 3) 0), (4, .d (.int .i64 n)), (5, .d (.int .i64 z))], [(.arg 0, .cells [.d (.list (bL B)), .d (.int .i64 a), .d (.int .i64 e)]), (.slot 2, .cells [.d (.int .i64 0), .d (.str []), .d (.int .i64 0), .nilsl, .nilsl]), (.slot 3, .cells [.d (.int .i64 kd), .d (.str nm), .d (.int .i64 nv), .d (.list al), .own (.slot 45) 0 l]), (.slot 45, .arr 71 2 0 es)]⟩ →
    loopK Try.prog cfg (icall Try.prog cfg j) lp Try.f55.ntmps 55 [Nm.arg 0] (bodyAt Try.f55 8) lf st (exitP [Nm.arg 0] (some [2, 3])) = some (.exit 0, ⟨[(2, .ptr (.slot 2) 0), (3, .ptr (.slot 3) 0)], [(.arg 0, .cells [.d (.list (bL B)), .d (.int .i64 a'), .d (.int .i64 (sFlows m s).2.2)]), (.slot 2, .cells [.d (.int .i64 0), .d (.str []), .d (.int .i64 0), .nilsl, .nilsl]), (.slot 3, .cells [.d (.int .i64 kd), .d (.str nm), .d (.int .i64 nv), .d (.list al), .own (.slot 45) 0 (es ++ (sFlows m s).1.map FlowT.cells).length]), (.slot 45, .arr 71 2 0 (es ++ (sFlows m s).1.map FlowT.cells))]⟩) := by
  intro m
  have hmx : 1000001 ≤ maxLen := by decide
  induction m with
  | zero =>
    intro i z s a e l es hi hle hz h he hl hb
    refine ⟨a, h, fun lf st hlf hp => ?_⟩
    rw [p55F j B hB hj kd nm nv al n hn16 hlp es l s a e z (.inr (by omega)) lf (by omega) st hp]
    rw [sFlows, List.map_nil, List.append_nil, hl, he]
  | succ m ihm =>
    intro i z s a e l es hi hle hz h he hl hb
    by_cases g0 : e ≠ 0
    · refine ⟨a, by rw [sFlows_e _ (by omega)]; exact h, fun lf st hlf hp => ?_⟩
      rw [p55F j B hB hj kd nm nv al n hn16 hlp es l s a e z (.inl g0) lf (by omega) st hp]
      rw [sFlows_e _ (by omega), List.map_nil, List.append_nil, hl, he]
    · have g1 : s.2 = 0 := by omega
      obtain rfl : e = 0 := by omega
      rw [sFlows_1 _ g1]
      obtain ⟨a1, h1, c1⟩ := pUint hB 4096 (by omega) h
      obtain ⟨a2, h2, c2⟩ := pMaybe hB h1
      replace c1 := c1 j hj
      replace c2 := c2 j hj
      have hR : es.take l ++ [[D.int .i64 ((sN 4096 s).1 : Int), D.list (cellsL (sM (sN 4096 s).2).1)]] = es ++ [FlowT.cells (sFlow s).1] := by rw [List.take_of_length_le (by omega)]; rfl
      have hRl : (es ++ [FlowT.cells (sFlow s).1]).length = l + 1 := by rw [List.length_append, hl]; rfl
      obtain ⟨a3, h3, hih⟩ := ihm (i + 1) (IntKind.i64.wrap (z + 1)) (sFlow s).2 a2 _ (l + 1) (es ++ [FlowT.cells (sFlow s).1]) (by omega) (by omega) (wrap_up hz (by omega)) h2 rfl hRl (by omega)
      refine ⟨a3, h3, fun lf st hlf hp => ?_⟩
      have hA : es ++ ((sFlow s).1 :: (sFlows m (sFlow s).2).1).map FlowT.cells = (es ++ [FlowT.cells (sFlow s).1]) ++ (sFlows m (sFlow s).2).1.map FlowT.cells := by rw [List.append_assoc]; rfl
      rw [hA]
      rw [← hR] at hih ⊢
      have hend : z < (n : Int) := by omega
      rw [g1] at c1
      change ∀ (lf : Nat) (st : St), _ → prune _ _ _ = some ⟨_, [(_, .cells [_, _, .d (.int .i64 (sM (sN 4096 s).2).2.2)]), _, _, _]⟩ → _ at hih
      generalize sFlows m (sFlow s).2 = rr at *
      generalize sN 4096 s = r1 at *
      obtain ⟨v1, s1⟩ := r1
      generalize sM s1 = r2 at *
      obtain ⟨v2, s2⟩ := r2
      dsimp only at c1 c2 hih ⊢
      obtain ⟨lf, rfl⟩ : ∃ n, lf = n + 1 := ⟨lf - 1, by omega⟩
      refine loop_step hp ?_
      conv => lhs; whnf
      refine iteK_dec_t hend ?_
      conv => lhs; whnf
      refine iteK_dec_t hend ?_
      conv => lhs; whnf
      refine iteK_dec_t hend ?_
      conv => lhs; whnf
      refine iteK_dec_t hend ?_
      conv => lhs; whnf
      refine iteK_dec_t hend ?_
      conv => lhs; whnf
      refine iteK_dec_t hend ?_
      conv => lhs; whnf
      refine nextK_of c1 ?_
      conv => lhs; whnf
      refine nextK_of c2 ?_
      conv => lhs; whnf
      refine nextK_of (aop_app rfl rfl rfl rfl rfl rfl rfl rfl rfl rfl rfl rfl (lenF (by omega))) ?_
      conv => lhs; whnf
      refine Eq.trans (hih lf _ (by omega) rfl) ?_
      rfl
theorem p55S (j : Nat) (B : List UInt8) (hB : B.length ≤ LB) (hj : 7 * B.length + 100 < j) (kd : Int) (nm : List UInt8) (nv : Int) (al : List (List D)) (n : Nat) (hn16 : n ≤ 1000000) {lp : LP} {e0 : Int} {a0 : Nat} (hlp : lp = lpOf Try.prog cfg (icall Try.prog cfg j) Try.f55.ntmps 55 j ((rfH B a0 e0).map (·.1))) (m : Nat) (hm : n = m + 1) (s : Sg) (a : Nat) (h : Rf B a s) (g1 : s.2 = 0) :
    ∃ a', Rf B a' (sFlows (m + 1) s).2 ∧ ∀ (lf : Nat) (st : St), m + 3 < lf → prune [Nm.arg 0] [0, 2, 3, 4, 5] st = some ⟨[(0, .ptr (.arg 0) 0), (2, .ptr (.slot 2) 0), (3, .ptr (.slot 3) 0), (4, .d (.int .i64 n)), (5, .d (.int .i64 0))], [(.arg 0, .cells [.d (.list (bL B)), .d (.int .i64 a), .d (.int .i64 0)]), (.slot 2, .cells [.d (.int .i64 0), .d (.str []), .d (.int .i64 0), .nilsl, .nilsl]), (.slot 3, .cells [.d (.int .i64 kd), .d (.str nm), .d (.int .i64 nv), .d (.list al), .nilsl])]⟩ →
    loopK Try.prog cfg (icall Try.prog cfg j) lp Try.f55.ntmps 55 [Nm.arg 0] (bodyAt Try.f55 8) lf st (exitP [Nm.arg 0] (some [2, 3])) = some (.exit 0, ⟨[(2, .ptr (.slot 2) 0), (3, .ptr (.slot 3) 0)], [(.arg 0, .cells [.d (.list (bL B)), .d (.int .i64 a'), .d (.int .i64 (sFlows (m + 1) s).2.2)]), (.slot 2, .cells [.d (.int .i64 0), .d (.str []), .d (.int .i64 0), .nilsl, .nilsl]), (.slot 3, .cells [.d (.int .i64 kd), .d (.str nm), .d (.int .i64 nv), .d (.list al), .own (.slot 45) 0 ((sFlows (m + 1) s).1.map FlowT.cells).length]), (.slot 45, .arr 71 2 0 ((sFlows (m + 1) s).1.map FlowT.cells))]⟩) := by
  rw [sFlows_1 _ g1]
  obtain ⟨a1, h1, c1⟩ := pUint hB 4096 (by omega) h
  obtain ⟨a2, h2, c2⟩ := pMaybe hB h1
  replace c1 := c1 j hj
  replace c2 := c2 j hj
  obtain ⟨a3, h3, hih⟩ := p55L j B hB hj kd nm nv al n hn16 hlp m 1 1 (sFlow s).2 a2 _ 1 [FlowT.cells (sFlow s).1] (by omega) (by omega) rfl h2 rfl rfl (by omega)
  refine ⟨a3, h3, fun lf st hlf hp => ?_⟩
  have hend : (0 : Int) < (n : Int) := by omega
  rw [g1] at c1
  have hA : ((sFlow s).1 :: (sFlows m (sFlow s).2).1).map FlowT.cells = [FlowT.cells (sFlow s).1] ++ (sFlows m (sFlow s).2).1.map FlowT.cells := rfl
  rw [hA]
  have hfc : FlowT.cells (sFlow s).1 = [D.int .i64 ((sN 4096 s).1 : Int), D.list (cellsL (sM (sN 4096 s).2).1)] := rfl
  have hf2 : (sFlow s).2.2 = (sM (sN 4096 s).2).2.2 := rfl
  rw [hfc] at hih ⊢
  rw [hf2] at hih
  generalize sFlows m (sFlow s).2 = rr at *
  generalize sN 4096 s = r1 at *
  obtain ⟨v1, s1⟩ := r1
  generalize sM s1 = r2 at *
  obtain ⟨v2, s2⟩ := r2
  dsimp only at c1 c2 hih ⊢
  obtain ⟨lf, rfl⟩ : ∃ n, lf = n + 1 := ⟨lf - 1, by omega⟩
  refine loop_step hp ?_
  conv => lhs; whnf
  refine iteK_dec_t hend ?_
  conv => lhs; whnf
  refine iteK_dec_t hend ?_
  conv => lhs; whnf
  refine iteK_dec_t hend ?_
  conv => lhs; whnf
  refine iteK_dec_t hend ?_
  conv => lhs; whnf
  refine iteK_dec_t hend ?_
  conv => lhs; whnf
  refine iteK_dec_t hend ?_
  conv => lhs; whnf
  refine nextK_of c1 ?_
  conv => lhs; whnf
  refine nextK_of c2 ?_
  conv => lhs; whnf
  refine Eq.trans (hih lf _ (by omega) rfl) ?_
  rfl
theorem place55 (B : List UInt8) (hB : B.length ≤ LB) (a : Nat) (s : Sg) (h : Rf B a s) (k : Nat) (hk : 7 * B.length + 20000 < k) : ∃ a', Rf B a' (sPlace s).2 ∧ icall Try.prog cfg k 55 [.ptr (.arg 0) 0] (rfH B a s.2) = some (.ret (sPlace s).1.av, rfH B a' (sPlace s).2.2) := by
  obtain ⟨k, rfl⟩ : ∃ j, k = j + 1 := ⟨k - 1, by omega⟩
  obtain ⟨a1, h1, c1⟩ := pOne hB h
  obtain ⟨a2, h2, c2⟩ := pText hB h1
  obtain ⟨a3, h3, c3⟩ := pUint hB 9 (by omega) h2
  obtain ⟨a4, h4, c4⟩ := pMaybe hB h3
  obtain ⟨a5, h5, c5⟩ := pUint hB 16 (by omega) h4
  replace c1 := c1 k (by omega)
  replace c2 := c2 k (by omega)
  replace c3 := c3 k (by omega)
  replace c4 := c4 k (by omega)
  replace c5 := c5 k (by omega)
  have hn16 := sN_most 16 (sM (sN 9 (sT (sO s).2).2).2).2
  have hP : sPlace s = (⟨(sO s).1, (sT (sO s).2).1, (sN 9 (sT (sO s).2).2).1, (sM (sN 9 (sT (sO s).2).2).2).1, (sFlows (sN 16 (sM (sN 9 (sT (sO s).2).2).2).2).1 (sN 16 (sM (sN 9 (sT (sO s).2).2).2).2).2).1⟩, (sFlows (sN 16 (sM (sN 9 (sT (sO s).2).2).2).2).1 (sN 16 (sM (sN 9 (sT (sO s).2).2).2).2).2).2) := rfl
  rw [hP]
  clear hP
  generalize sO s = r1 at *
  obtain ⟨v1, s1⟩ := r1
  dsimp only at c1 c2 c3 c4 c5 hn16 h1 h2 h3 h4 h5 ⊢
  generalize sT s1 = r2 at *
  obtain ⟨v2, s2⟩ := r2
  dsimp only at c2 c3 c4 c5 hn16 h2 h3 h4 h5 ⊢
  generalize sN 9 s2 = r3 at *
  obtain ⟨v3, s3⟩ := r3
  dsimp only at c3 c4 c5 hn16 h3 h4 h5 ⊢
  generalize sM s3 = r4 at *
  obtain ⟨v4, s4⟩ := r4
  dsimp only at c4 c5 hn16 h4 h5 ⊢
  generalize sN 16 s4 = r5 at *
  obtain ⟨n, s5⟩ := r5
  dsimp only at c5 hn16 h5 ⊢
  obtain ⟨b0, e0⟩ := s
  obtain ⟨b1, e1⟩ := s1
  obtain ⟨b2, e2⟩ := s2
  obtain ⟨b3, e3⟩ := s3
  obtain ⟨b4, e4⟩ := s4
  obtain ⟨b5, e5⟩ := s5
  dsimp only at c1 c2 c3 c4 c5
  by_cases g0 : e5 ≠ 0 ∨ n = 0
  · have hf : sFlows n (b5, e5) = ([], b5, e5) := by
      rcases g0 with g | rfl
      · exact sFlows_e n g
      · rfl
    rw [hf]
    refine ⟨a5, h5, ?_⟩
    show icall Try.prog cfg _ _ _ _ = some (.ret (.agg [.d (.int .i64 (v1 : Int)), .d (.str v2), .d (.int .i64 (v3 : Int)), .d (.list (cellsL v4)), .d (.list [])]), rfH B a5 e5)
    rw [icall_body rfl Try.func55]
    obtain ⟨lp, hlp⟩ : ∃ lp, lp = lpOf Try.prog cfg (icall Try.prog cfg k) Try.f55.ntmps 55 k ((rfH B a e0).map (·.1)) := ⟨_, rfl⟩
    rw [← hlp]
    conv => lhs; whnf
    refine nextK_of c1 ?_
    conv => lhs; whnf
    refine nextK_of c2 ?_
    conv => lhs; whnf
    refine nextK_of c3 ?_
    conv => lhs; whnf
    refine nextK_of c4 ?_
    conv => lhs; whnf
    refine nextK_of c5 ?_
    conv => lhs; whnf
    refine nextK_of (loop_at hlp (p55E k B hB (by omega) v1 v2 v3 (cellsL v4) n (by omega) hlp (b5, e5) a5 e5 0 (by omega) k (by omega) _ rfl)) ?_
    conv => lhs; whnf
    refine Eq.trans (b := some (Res.ret (AV.agg [AV.d (D.int IntKind.i64 ↑v1), AV.d (D.str v2), AV.d (D.int IntKind.i64 ↑v3), AV.d (D.list (cellsL v4)), AV.d (D.list [])]), [(Nm.arg (0 : Nat), AObj.cells [AV.d (D.list (bL B)), AV.d (D.int IntKind.i64 ↑a5), AV.d (D.int IntKind.i64 e5)])])) (by kernel_rfl) ?_
    rfl
  · obtain ⟨m, rfl⟩ : ∃ m, n = m + 1 := ⟨n - 1, by omega⟩
    obtain rfl : e5 = 0 := by omega
    obtain ⟨lp, hlp⟩ : ∃ lp, lp = lpOf Try.prog cfg (icall Try.prog cfg k) Try.f55.ntmps 55 k ((rfH B a e0).map (·.1)) := ⟨_, rfl⟩
    obtain ⟨a6, h6, hl6⟩ := p55S k B hB (by omega) v1 v2 v3 (cellsL v4) (m + 1) (by omega) hlp m rfl (b5, 0) a5 h5 rfl
    refine ⟨a6, h6, ?_⟩
    generalize sFlows (m + 1) (b5, 0) = rr at *
    obtain ⟨fl, b6, e6⟩ := rr
    dsimp only at hl6 ⊢
    show icall Try.prog cfg _ _ _ _ = some (.ret (.agg [.d (.int .i64 (v1 : Int)), .d (.str v2), .d (.int .i64 (v3 : Int)), .d (.list (cellsL v4)), .d (.list (fl.map FlowT.cells))]), rfH B a6 e6)
    generalize fl.map FlowT.cells = R at *
    have ht : R.take R.length = R := List.take_length
    rw [icall_body rfl Try.func55]
    rw [← hlp]
    conv => lhs; whnf
    refine nextK_of c1 ?_
    conv => lhs; whnf
    refine nextK_of c2 ?_
    conv => lhs; whnf
    refine nextK_of c3 ?_
    conv => lhs; whnf
    refine nextK_of c4 ?_
    conv => lhs; whnf
    refine nextK_of c5 ?_
    conv => lhs; whnf
    refine nextK_of (loop_at hlp (hl6 k _ (by omega) rfl)) ?_
    conv => lhs; whnf
    refine Eq.trans (b := some (Res.ret (AV.agg [AV.d (D.int IntKind.i64 ↑v1), AV.d (D.str v2), AV.d (D.int IntKind.i64 ↑v3), AV.d (D.list (cellsL v4)), AV.d (D.list (List.take (List.length R) R))]), [(Nm.arg (0 : Nat), AObj.cells [AV.d (D.list (bL B)), AV.d (D.int IntKind.i64 ↑a6), AV.d (D.int IntKind.i64 e6)])])) (by kernel_rfl) ?_
    (exact congrArg (fun q => some (Res.ret (.agg [.d (.int .i64 (v1 : Int)), .d (.str v2), .d (.int .i64 (v3 : Int)), .d (.list (cellsL v4)), .d (.list q)]), rfH B a6 e6)) ht)
end Go.Rx11
end
