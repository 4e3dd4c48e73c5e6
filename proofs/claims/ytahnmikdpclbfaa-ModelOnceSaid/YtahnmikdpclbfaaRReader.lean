/- A part of the proof of the law: what functions of the program come to, walked by Rx, or plain facts on it. -/
import Derived.Test.YtahnmikdpclbfaaRReadX
import Derived.Test.YtahnmikdpclbfaaRJ0
open Go Go.Rx Go.Proofs Go.Rx11 Go.RxTree
set_option maxRecDepth 1000000
set_option maxHeartbeats 4000000
set_option linter.unusedVariables false
set_option linter.unusedSimpArgs false
namespace Go.Rx11
/-- A reader's two cells. -/
abbrev rdH (b : List UInt8) (e : Int) : Hp := [(.arg 0, .cells [.d (.list (bL b)), .d (.int .i64 e)])]
theorem keep79_0 (b q : List UInt8) (e : Int) (k : Nat) (hk : 0 < k) : icall Try.prog cfg k 79 [.ptr (.arg 0) 0, .d (.list (bL q)), .d (.int .i64 e)] (rdH b 0) = some (.ret (.tuple []), rdH q e) := by
  obtain ⟨k, rfl⟩ : ∃ j, k = j + 1 := ⟨k - 1, by omega⟩
  rw [icall_body rfl Try.func79]
  obtain ⟨lp, hlp⟩ : ∃ lp, lp = lpOf Try.prog cfg (icall Try.prog cfg k) Try.f79.ntmps 79 k ((rdH b 0).map (·.1)) := ⟨_, rfl⟩
  rw [← hlp]
  conv => lhs; whnf
  refine Eq.trans (b := some (Res.ret (AV.tuple []), [(Nm.arg (0 : Nat), AObj.cells [AV.d (D.list (bL q)), AV.d (D.int IntKind.i64 e)])])) (by kernel_rfl) ?_
  rfl
theorem keep79_e (b q : List UInt8) (e0 e : Int) (he : e0 ≠ 0) (k : Nat) (hk : 0 < k) : icall Try.prog cfg k 79 [.ptr (.arg 0) 0, .d (.list (bL q)), .d (.int .i64 e)] (rdH b e0) = some (.ret (.tuple []), rdH b e0) := by
  obtain ⟨k, rfl⟩ : ∃ j, k = j + 1 := ⟨k - 1, by omega⟩
  rw [icall_body rfl Try.func79]
  obtain ⟨lp, hlp⟩ : ∃ lp, lp = lpOf Try.prog cfg (icall Try.prog cfg k) Try.f79.ntmps 79 k ((rdH b e0).map (·.1)) := ⟨_, rfl⟩
  rw [← hlp]
  conv => lhs; whnf
  refine iteK_beq_f he ?_
  conv => lhs; whnf
  refine Eq.trans (b := some (Res.ret (AV.tuple []), [(Nm.arg (0 : Nat), AObj.cells [AV.d (D.list (bL b)), AV.d (D.int IntKind.i64 e0)])])) (by kernel_rfl) ?_
  rfl
theorem text49_e (b : List UInt8) (hb : b.length ≤ maxLen) (e0 : Int) (he : e0 ≠ 0) (k : Nat) (hk : 20 < k) : icall Try.prog cfg k 49 [.ptr (.arg 0) 0] (rdH b e0) = some (.ret (.d (.str [])), rdH b e0) := by
  obtain ⟨k, rfl⟩ : ∃ j, k = j + 1 := ⟨k - 1, by omega⟩
  have hc := readB73 b hb k (by omega)
  have hq := keep79_e b (rest b (rdB b).2.1 (rdB b).2.2) e0 (rdB b).2.2 he k (by omega)
  generalize rdB b = r at *
  obtain ⟨s, q, e⟩ := r
  rw [icall_body rfl Try.func49]
  obtain ⟨lp, hlp⟩ : ∃ lp, lp = lpOf Try.prog cfg (icall Try.prog cfg k) Try.f49.ntmps 49 k ((rdH b e0).map (·.1)) := ⟨_, rfl⟩
  rw [← hlp]
  conv => lhs; whnf
  refine nextK_of hc ?_
  conv => lhs; whnf
  refine nextK_of hq ?_
  conv => lhs; whnf
  refine iteK_bne_t he ?_
  conv => lhs; whnf
  refine Eq.trans (b := some (Res.ret (AV.d (D.str [])), [(Nm.arg (0 : Nat), AObj.cells [AV.d (D.list (bL b)), AV.d (D.int IntKind.i64 e0)])])) (by kernel_rfl) ?_
  rfl
theorem text49_0 (b : List UInt8) (hb : b.length ≤ maxLen) (k : Nat) (hk : 20 < k) : icall Try.prog cfg k 49 [.ptr (.arg 0) 0] (rdH b 0) = some (.ret (.d (.str (rdB b).1)), rdH (rest b (rdB b).2.1 (rdB b).2.2) (rdB b).2.2) := by
  obtain ⟨k, rfl⟩ : ∃ j, k = j + 1 := ⟨k - 1, by omega⟩
  have hc := readB73 b hb k (by omega)
  have hq := keep79_0 b (rest b (rdB b).2.1 (rdB b).2.2) (rdB b).2.2 k (by omega)
  have hr := (rdB_b b).2.1
  generalize rdB b = r at *
  obtain ⟨s, q, e⟩ := r
  dsimp only at hc hq hr ⊢
  by_cases h0 : e = 0
  · subst h0
    rw [icall_body rfl Try.func49]
    obtain ⟨lp, hlp⟩ : ∃ lp, lp = lpOf Try.prog cfg (icall Try.prog cfg k) Try.f49.ntmps 49 k ((rdH b 0).map (·.1)) := ⟨_, rfl⟩
    rw [← hlp]
    conv => lhs; whnf
    refine nextK_of hc ?_
    conv => lhs; whnf
    refine nextK_of hq ?_
    conv => lhs; whnf
    refine nextK_of (aop_text rfl rfl rfl rfl) ?_
    conv => lhs; whnf
    refine Eq.trans (b := some (Res.ret (AV.d (D.str s)), [(Nm.arg (0 : Nat), AObj.cells [AV.d (D.list (bL (rest b q (0 : Int)))), AV.d (D.int IntKind.i64 (0 : Int))])])) (by kernel_rfl) ?_
    rfl
  · obtain ⟨rfl, rfl⟩ := hr h0
    rw [icall_body rfl Try.func49]
    obtain ⟨lp, hlp⟩ : ∃ lp, lp = lpOf Try.prog cfg (icall Try.prog cfg k) Try.f49.ntmps 49 k ((rdH b 0).map (·.1)) := ⟨_, rfl⟩
    rw [← hlp]
    conv => lhs; whnf
    refine nextK_of hc ?_
    conv => lhs; whnf
    refine nextK_of hq ?_
    conv => lhs; whnf
    refine iteK_bne_t h0 ?_
    conv => lhs; whnf
    refine Eq.trans (b := some (Res.ret (AV.d (D.str [])), [(Nm.arg (0 : Nat), AObj.cells [AV.d (D.list (bL (rest b (0 : Nat) e))), AV.d (D.int IntKind.i64 e)])])) (by kernel_rfl) ?_
    rfl
theorem uint50_e (b : List UInt8) (hb : b.length ≤ maxLen) (most : Nat) (e0 : Int) (he : e0 ≠ 0) (k : Nat) (hk : 20 < k) : icall Try.prog cfg k 50 [.ptr (.arg 0) 0, .d (.int .u64 most)] (rdH b e0) = some (.ret (.d (.int .i64 0)), rdH b e0) := by
  obtain ⟨k, rfl⟩ : ∃ j, k = j + 1 := ⟨k - 1, by omega⟩
  have hc := readU80 b hb k (by omega)
  have hq := keep79_e b (rest b (rdU b).2.1 (rdU b).2.2) e0 (rdU b).2.2 he k (by omega)
  generalize rdU b = r at *
  obtain ⟨s, q, e⟩ := r
  rw [icall_body rfl Try.func50]
  obtain ⟨lp, hlp⟩ : ∃ lp, lp = lpOf Try.prog cfg (icall Try.prog cfg k) Try.f50.ntmps 50 k ((rdH b e0).map (·.1)) := ⟨_, rfl⟩
  rw [← hlp]
  conv => lhs; whnf
  refine nextK_of hc ?_
  conv => lhs; whnf
  refine nextK_of hq ?_
  conv => lhs; whnf
  refine iteK_beq_f he ?_
  conv => lhs; whnf
  refine iteK_beq_f he ?_
  conv => lhs; whnf
  refine iteK_beq_f he ?_
  conv => lhs; whnf
  refine iteK_beq_f he ?_
  conv => lhs; whnf
  refine iteK_bne_t he ?_
  conv => lhs; whnf
  refine Eq.trans (b := some (Res.ret (AV.d (D.int IntKind.i64 (0 : Int))), [(Nm.arg (0 : Nat), AObj.cells [AV.d (D.list (bL b)), AV.d (D.int IntKind.i64 e0)])])) (by kernel_rfl) ?_
  rfl
theorem uint50_0 (b : List UInt8) (hb : b.length ≤ maxLen) (most : Nat) (hmost : most ≤ 1000000) (k : Nat) (hk : 20 < k) : icall Try.prog cfg k 50 [.ptr (.arg 0) 0, .d (.int .u64 most)] (rdH b 0) = some (.ret (.d (.int .i64 (rdN most b).1)), rdH (mN most b) (rdN most b).2.2) := by
  obtain ⟨k, rfl⟩ : ∃ j, k = j + 1 := ⟨k - 1, by omega⟩
  have hc := readU80 b hb k (by omega)
  have hq := keep79_0 b (rest b (rdU b).2.1 (rdU b).2.2) (rdU b).2.2 k (by omega)
  obtain ⟨_, _, hr⟩ := rdU_b b
  unfold rdN mN
  generalize rdU b = r at *
  obtain ⟨n, q, e⟩ := r
  dsimp only at hc hq hr ⊢
  by_cases h0 : e = 0
  · subst h0
    rw [rest_0] at hc hq
    by_cases g1 : most < n
    · simp only [ne_eq, not_true_eq_false, if_false, if_pos g1]
      rw [icall_body rfl Try.func50]
      obtain ⟨lp, hlp⟩ : ∃ lp, lp = lpOf Try.prog cfg (icall Try.prog cfg k) Try.f50.ntmps 50 k ((rdH b 0).map (·.1)) := ⟨_, rfl⟩
      rw [← hlp]
      conv => lhs; whnf
      refine nextK_of hc ?_
      conv => lhs; whnf
      refine nextK_of hq ?_
      conv => lhs; whnf
      refine iteK_dec (fun h1 => ?_) (fun h1 => ?_)
      · rw [dec_t h1]
        conv => lhs; whnf
        refine Eq.trans (b := some (Res.ret (AV.d (D.int IntKind.i64 (0 : Int))), [(Nm.arg (0 : Nat), AObj.cells [AV.d (D.list (bL (List.drop q b))), AV.d (D.int IntKind.i64 (6 : Int))])])) (by kernel_rfl) ?_
        rfl
      · rw [dec_f h1]
        (exfalso; omega)
    · simp only [ne_eq, not_true_eq_false, if_false, if_neg g1]
      have hw : IntKind.i64.wrap (n : Int) = (n : Int) := Go.Rx.wrap_i64 (by omega) (by omega)
      rw [icall_body rfl Try.func50]
      obtain ⟨lp, hlp⟩ : ∃ lp, lp = lpOf Try.prog cfg (icall Try.prog cfg k) Try.f50.ntmps 50 k ((rdH b 0).map (·.1)) := ⟨_, rfl⟩
      rw [← hlp]
      conv => lhs; whnf
      refine nextK_of hc ?_
      conv => lhs; whnf
      refine nextK_of hq ?_
      conv => lhs; whnf
      refine iteK_dec (fun h1 => ?_) (fun h1 => ?_)
      · rw [dec_t h1]
        (exfalso; omega)
      · rw [dec_f h1]
        conv => lhs; whnf
        refine Eq.trans (b := some (Res.ret (AV.d (D.int IntKind.i64 (IntKind.wrap IntKind.i64 ↑n))), [(Nm.arg (0 : Nat), AObj.cells [AV.d (D.list (bL (List.drop q b))), AV.d (D.int IntKind.i64 (0 : Int))])])) (by kernel_rfl) ?_
        (exact congrArg (fun z => some (Res.ret (.d (.int .i64 z)), rdH (b.drop q) 0)) hw)
  · simp only [ne_eq, h0, not_false_eq_true, if_true]
    obtain ⟨rfl, rfl⟩ := hr h0
    rw [rest_e _ _ h0] at hc hq
    rw [icall_body rfl Try.func50]
    obtain ⟨lp, hlp⟩ : ∃ lp, lp = lpOf Try.prog cfg (icall Try.prog cfg k) Try.f50.ntmps 50 k ((rdH b 0).map (·.1)) := ⟨_, rfl⟩
    rw [← hlp]
    conv => lhs; whnf
    refine nextK_of hc ?_
    conv => lhs; whnf
    refine nextK_of hq ?_
    conv => lhs; whnf
    refine iteK_beq_f h0 ?_
    conv => lhs; whnf
    refine iteK_beq_f h0 ?_
    conv => lhs; whnf
    refine iteK_beq_f h0 ?_
    conv => lhs; whnf
    refine iteK_beq_f h0 ?_
    conv => lhs; whnf
    refine iteK_bne_t h0 ?_
    conv => lhs; whnf
    refine Eq.trans (b := some (Res.ret (AV.d (D.int IntKind.i64 (0 : Int))), [(Nm.arg (0 : Nat), AObj.cells [AV.d (D.list []), AV.d (D.int IntKind.i64 e)])])) (by kernel_rfl) ?_
    rfl
theorem one51_e (b : List UInt8) (e0 : Int) (he : e0 ≠ 0) (k : Nat) (hk : 0 < k) : icall Try.prog cfg k 51 [.ptr (.arg 0) 0] (rdH b e0) = some (.ret (.d (.int .i64 0)), rdH b e0) := by
  obtain ⟨k, rfl⟩ : ∃ j, k = j + 1 := ⟨k - 1, by omega⟩
  rw [icall_body rfl Try.func51]
  obtain ⟨lp, hlp⟩ : ∃ lp, lp = lpOf Try.prog cfg (icall Try.prog cfg k) Try.f51.ntmps 51 k ((rdH b e0).map (·.1)) := ⟨_, rfl⟩
  rw [← hlp]
  conv => lhs; whnf
  refine iteK_beq_f he ?_
  conv => lhs; whnf
  refine iteK_beq_f he ?_
  conv => lhs; whnf
  refine iteK_beq_f he ?_
  conv => lhs; whnf
  refine iteK_beq_f he ?_
  conv => lhs; whnf
  refine iteK_beq_f he ?_
  conv => lhs; whnf
  refine iteK_beq_f he ?_
  conv => lhs; whnf
  refine iteK_beq_f he ?_
  conv => lhs; whnf
  refine iteK_bne_t he ?_
  conv => lhs; whnf
  refine Eq.trans (b := some (Res.ret (AV.d (D.int IntKind.i64 (0 : Int))), [(Nm.arg (0 : Nat), AObj.cells [AV.d (D.list (bL b)), AV.d (D.int IntKind.i64 e0)])])) (by kernel_rfl) ?_
  rfl
theorem one51_0 (b : List UInt8) (k : Nat) (hk : 0 < k) : icall Try.prog cfg k 51 [.ptr (.arg 0) 0] (rdH b 0) = some (.ret (.d (.int .i64 (rdO b).1)), rdH (mO b) (rdO b).2.2) := by
  obtain ⟨k, rfl⟩ : ∃ j, k = j + 1 := ⟨k - 1, by omega⟩
  match b with
  | [] =>
    rw [icall_body rfl Try.func51]
    obtain ⟨lp, hlp⟩ : ∃ lp, lp = lpOf Try.prog cfg (icall Try.prog cfg k) Try.f51.ntmps 51 k ((rdH [] 0).map (·.1)) := ⟨_, rfl⟩
    rw [← hlp]
    conv => lhs; whnf
    refine Eq.trans (b := some (Res.ret (AV.d (D.int IntKind.i64 (0 : Int))), [(Nm.arg (0 : Nat), AObj.cells [AV.d (D.list []), AV.d (D.int IntKind.i64 (5 : Int))])])) (by kernel_rfl) ?_
    rfl
  | c :: r =>
    have hw := wci c
    obtain ⟨B, hB⟩ : ∃ B, B = c :: r := ⟨_, rfl⟩
    have hB0 : B[0]? = some c := by rw [hB]; rfl
    have hB1 : B.drop 1 = r := by rw [hB]; rfl
    have hBl : B.length = r.length + 1 := by rw [hB]; rfl
    have hBb := bL_len B
    show icall Try.prog cfg _ _ _ _ = some (.ret (.d (.int .i64 c.toNat)), rdH r 0)
    rw [← hB]
    rw [icall_body rfl Try.func51]
    obtain ⟨lp, hlp⟩ : ∃ lp, lp = lpOf Try.prog cfg (icall Try.prog cfg k) Try.f51.ntmps 51 k ((rdH B 0).map (·.1)) := ⟨_, rfl⟩
    rw [← hlp]
    conv => lhs; whnf
    refine iteK_beq (fun h1 => ?_) (fun h1 => ?_)
    · rw [beq_t h1]
      (exfalso; omega)
    · rw [beq_f h1]
      conv => lhs; whnf
      refine nextK_of (aop_ix rfl rfl rfl rfl (ixL_at' (n := 0) rfl (bL_get hB0) rfl)) ?_
      conv => lhs; whnf
      refine nextK_of (aop_from (a := 1) (y := r) rfl rfl rfl rfl rfl (by omega) hB1) ?_
      conv => lhs; whnf
      refine Eq.trans (b := some (Res.ret (AV.d (D.int IntKind.i64 (IntKind.wrap IntKind.i64 ↑c.toBitVec.toFin.1))), [(Nm.arg (0 : Nat), AObj.cells [AV.d (D.list (bL r)), AV.d (D.int IntKind.i64 (0 : Int))])])) (by kernel_rfl) ?_
      (exact congrArg (fun z => some (Res.ret (.d (.int .i64 z)), rdH r 0)) hw)
theorem maybe52_e (b : List UInt8) (e0 : Int) (he : e0 ≠ 0) (k : Nat) (hk : 1 < k) : icall Try.prog cfg k 52 [.ptr (.arg 0) 0] (rdH b e0) = some (.ret (.d (.list [])), rdH b e0) := by
  obtain ⟨k, rfl⟩ : ∃ j, k = j + 1 := ⟨k - 1, by omega⟩
  have hc := one51_e b e0 he k (by omega)
  rw [icall_body rfl Try.func52]
  obtain ⟨lp, hlp⟩ : ∃ lp, lp = lpOf Try.prog cfg (icall Try.prog cfg k) Try.f52.ntmps 52 k ((rdH b e0).map (·.1)) := ⟨_, rfl⟩
  rw [← hlp]
  conv => lhs; whnf
  refine nextK_of hc ?_
  conv => lhs; whnf
  refine Eq.trans (b := some (Res.ret (AV.d (D.list [])), [(Nm.arg (0 : Nat), AObj.cells [AV.d (D.list (bL b)), AV.d (D.int IntKind.i64 e0)])])) (by kernel_rfl) ?_
  rfl
theorem maybe52_0 (b : List UInt8) (hb : b.length ≤ 140737488351232) (k : Nat) (hk : (rdT 16 b.tail).1.wt + 60 < k) : icall Try.prog cfg k 52 [.ptr (.arg 0) 0] (rdH b 0) = some (.ret (.d (.list (cellsL (rdM b).1))), rdH (mM b) (rdM b).2.2) := by
  obtain ⟨k, rfl⟩ : ∃ j, k = j + 1 := ⟨k - 1, by omega⟩
  have hc := one51_0 b k (by omega)
  match b with
  | [] =>
    rw [icall_body rfl Try.func52]
    obtain ⟨lp, hlp⟩ : ∃ lp, lp = lpOf Try.prog cfg (icall Try.prog cfg k) Try.f52.ntmps 52 k ((rdH [] 0).map (·.1)) := ⟨_, rfl⟩
    rw [← hlp]
    conv => lhs; whnf
    refine nextK_of hc ?_
    conv => lhs; whnf
    refine Eq.trans (b := some (Res.ret (AV.d (D.list [])), [(Nm.arg (0 : Nat), AObj.cells [AV.d (D.list []), AV.d (D.int IntKind.i64 (5 : Int))])])) (by kernel_rfl) ?_
    rfl
  | c :: r =>
    have hx := readX15 r (by simp only [List.length_cons] at hb; omega) k (by simp only [List.tail_cons] at hk; omega)
    have hq := keep79_0 r (rest r (rdX r).2.1 (rdX r).2.2) (rdX r).2.2 k (by omega)
    obtain ⟨B, hB⟩ : ∃ B, B = c :: r := ⟨_, rfl⟩
    rw [rdM, mM]
    rw [← hB] at hc ⊢
    have e1 : rdO B = (c.toNat, 1, 0) := by rw [hB]; rfl
    have e2 : mO B = r := by rw [hB]; rfl
    rw [e1, e2] at hc
    dsimp only at hc
    by_cases g0 : c.toNat = 0
    · rw [if_pos g0, if_pos (.inl g0)]
      rw [g0] at hc
      rw [icall_body rfl Try.func52]
      obtain ⟨lp, hlp⟩ : ∃ lp, lp = lpOf Try.prog cfg (icall Try.prog cfg k) Try.f52.ntmps 52 k ((rdH B 0).map (·.1)) := ⟨_, rfl⟩
      rw [← hlp]
      conv => lhs; whnf
      refine nextK_of hc ?_
      conv => lhs; whnf
      refine Eq.trans (b := some (Res.ret (AV.d (D.list [])), [(Nm.arg (0 : Nat), AObj.cells [AV.d (D.list (bL r)), AV.d (D.int IntKind.i64 (0 : Int))])])) (by kernel_rfl) ?_
      rfl
    · rw [if_neg g0]
      by_cases g1 : 1 < c.toNat
      · rw [if_pos g1, if_pos (.inr g1)]
        rw [icall_body rfl Try.func52]
        obtain ⟨lp, hlp⟩ : ∃ lp, lp = lpOf Try.prog cfg (icall Try.prog cfg k) Try.f52.ntmps 52 k ((rdH B 0).map (·.1)) := ⟨_, rfl⟩
        rw [← hlp]
        conv => lhs; whnf
        refine nextK_of hc ?_
        conv => lhs; whnf
        refine iteK_dec (fun h1 => ?_) (fun h1 => ?_)
        · rw [dec_t h1]
          conv => lhs; whnf
          refine iteK_beq (fun h2 => ?_) (fun h2 => ?_)
          · rw [beq_t h2]
            (exfalso; omega)
          · rw [beq_f h2]
            conv => lhs; whnf
            refine Eq.trans (b := some (Res.ret (AV.d (D.list [])), [(Nm.arg (0 : Nat), AObj.cells [AV.d (D.list (bL r)), AV.d (D.int IntKind.i64 (3 : Int))])])) (by kernel_rfl) ?_
            rfl
        · rw [dec_f h1]
          (exfalso; omega)
      · rw [if_neg g1, if_neg (by omega)]
        have g2 : c.toNat = 1 := by omega
        rw [g2] at hc
        generalize rdX r = rx at *
        obtain ⟨⟨tk, tn, ts, tl⟩, q, e⟩ := rx
        rw [icall_body rfl Try.func52]
        obtain ⟨lp, hlp⟩ : ∃ lp, lp = lpOf Try.prog cfg (icall Try.prog cfg k) Try.f52.ntmps 52 k ((rdH B 0).map (·.1)) := ⟨_, rfl⟩
        rw [← hlp]
        conv => lhs; whnf
        refine nextK_of hc ?_
        conv => lhs; whnf
        refine nextK_of hx ?_
        conv => lhs; whnf
        refine nextK_of hq ?_
        conv => lhs; whnf
        refine Eq.trans (b := some (Res.ret (AV.d (D.list [[D.int IntKind.i64 (T.kind (T.mk tk tn ts tl, q, e).fst), D.int IntKind.i64 (T.n (T.mk tk tn ts tl, q, e).fst), D.str (T.name (T.mk tk tn ts tl, q, e).fst), D.list (cellsL (T.kids (T.mk tk tn ts tl, q, e).fst))]])), [(Nm.arg (0 : Nat), AObj.cells [AV.d (D.list (bL (rest r q e))), AV.d (D.int IntKind.i64 e)])])) (by kernel_rfl) ?_
        rfl
end Go.Rx11
