/- A part of the proof of the law: what functions of the program come to, walked by Rx, or plain facts on it. -/
import Derived.Test.YtahnmikdpclbfaaRReader
open Go Go.Rx Go.Proofs Go.Rx11 Go.RxTree
set_option maxRecDepth 1000000
set_option maxHeartbeats 4000000
set_option linter.unusedVariables false
set_option linter.unusedSimpArgs false
namespace Go.Rx11
/-- The reference's reader: the bytes, the place, what is wrong. -/
abbrev rfH (B : List UInt8) (at' : Nat) (e : Int) : Hp := [(.arg 0, .cells [.d (.list (bL B)), .d (.int .i64 at'), .d (.int .i64 e)])]
theorem wadd {a q n : Nat} (h : a + q ≤ n) (hn : n ≤ 140737488351232) : IntKind.i64.wrap ((a : Int) + (q : Int)) = ((a + q : Nat) : Int) := by
  rw [Go.Rx.wrap_i64 (by omega) (by omega)]; omega
theorem text53_e (B : List UInt8) (a : Nat) (e0 : Int) (he : e0 ≠ 0) (k : Nat) (hk : 0 < k) : icall Try.prog cfg k 53 [.ptr (.arg 0) 0] (rfH B a e0) = some (.ret (.d (.str [])), rfH B a e0) := by
  obtain ⟨k, rfl⟩ : ∃ j, k = j + 1 := ⟨k - 1, by omega⟩
  rw [icall_body rfl Try.func53]
  obtain ⟨lp, hlp⟩ : ∃ lp, lp = lpOf Try.prog cfg (icall Try.prog cfg k) Try.f53.ntmps 53 k ((rfH B a e0).map (·.1)) := ⟨_, rfl⟩
  rw [← hlp]
  conv => lhs; whnf
  refine iteK_bne_t he ?_
  conv => lhs; whnf
  refine Eq.trans (b := some (Res.ret (AV.d (D.str [])), [(Nm.arg (0 : Nat), AObj.cells [AV.d (D.list (bL B)), AV.d (D.int IntKind.i64 ↑a), AV.d (D.int IntKind.i64 e0)])])) (by kernel_rfl) ?_
  rfl
theorem text53_0 (B : List UInt8) (hB : B.length ≤ 140737488351232) (a : Nat) (ha : a ≤ B.length) (k : Nat) (hk : 20 < k) : icall Try.prog cfg k 53 [.ptr (.arg 0) 0] (rfH B a 0) = some (.ret (.d (.str (rdB (B.drop a)).1)), rfH B (a + (rdB (B.drop a)).2.1) (rdB (B.drop a)).2.2) := by
  obtain ⟨k, rfl⟩ : ∃ j, k = j + 1 := ⟨k - 1, by omega⟩
  have hl : (B.drop a).length = B.length - a := List.length_drop ..
  have hmx : (140737488351232 : Nat) ≤ maxLen := by decide
  have hc := readB76 (B.drop a) (by omega) k (by omega)
  obtain ⟨r1, r2, _⟩ := rdB_b (B.drop a)
  generalize rdB (B.drop a) = r at *
  obtain ⟨s, q, e⟩ := r
  dsimp only at hc r1 r2 ⊢
  have hq : a + q ≤ B.length := by
    by_cases h : e = 0
    · have := (r1 h).1; omega
    · rw [(r2 h).2]; omega
  have hw := wadd hq hB
  rw [icall_body rfl Try.func53]
  obtain ⟨lp, hlp⟩ : ∃ lp, lp = lpOf Try.prog cfg (icall Try.prog cfg k) Try.f53.ntmps 53 k ((rfH B a 0).map (·.1)) := ⟨_, rfl⟩
  rw [← hlp]
  conv => lhs; whnf
  refine iteO_t (by kernel_rfl) ?_
  conv => lhs; whnf
  refine nextK_of (aop_from (z := B) (a := a) rfl rfl rfl rfl rfl ha rfl) ?_
  conv => lhs; whnf
  refine nextK_of hc ?_
  conv => lhs; whnf
  refine iteO_t (by kernel_rfl) ?_
  conv => lhs; whnf
  refine nextK_of (aop_text rfl rfl rfl rfl) ?_
  conv => lhs; whnf
  refine Eq.trans (b := some (Res.ret (AV.d (D.str s)), [(Nm.arg (0 : Nat), AObj.cells [AV.d (D.list (bL B)), AV.d (D.int IntKind.i64 (IntKind.wrap IntKind.i64 (↑a + ↑q))), AV.d (D.int IntKind.i64 e)])])) (by kernel_rfl) ?_
  (exact congrArg (fun z => some (Res.ret (.d (.str s)), ([(.arg 0, .cells [.d (.list (bL B)), .d (.int .i64 z), .d (.int .i64 e)])] : Hp))) hw)
theorem uint54_e (B : List UInt8) (a : Nat) (most : Nat) (e0 : Int) (he : e0 ≠ 0) (k : Nat) (hk : 0 < k) : icall Try.prog cfg k 54 [.ptr (.arg 0) 0, .d (.int .u64 most)] (rfH B a e0) = some (.ret (.d (.int .i64 0)), rfH B a e0) := by
  obtain ⟨k, rfl⟩ : ∃ j, k = j + 1 := ⟨k - 1, by omega⟩
  rw [icall_body rfl Try.func54]
  obtain ⟨lp, hlp⟩ : ∃ lp, lp = lpOf Try.prog cfg (icall Try.prog cfg k) Try.f54.ntmps 54 k ((rfH B a e0).map (·.1)) := ⟨_, rfl⟩
  rw [← hlp]
  conv => lhs; whnf
  refine iteK_bne_t he ?_
  conv => lhs; whnf
  refine Eq.trans (b := some (Res.ret (AV.d (D.int IntKind.i64 (0 : Int))), [(Nm.arg (0 : Nat), AObj.cells [AV.d (D.list (bL B)), AV.d (D.int IntKind.i64 ↑a), AV.d (D.int IntKind.i64 e0)])])) (by kernel_rfl) ?_
  rfl
theorem uint54_0 (B : List UInt8) (hB : B.length ≤ 140737488351232) (a : Nat) (ha : a ≤ B.length) (most : Nat) (hmost : most ≤ 1000000) (k : Nat) (hk : 20 < k) : icall Try.prog cfg k 54 [.ptr (.arg 0) 0, .d (.int .u64 most)] (rfH B a 0) = some (.ret (.d (.int .i64 (rdN most (B.drop a)).1)), rfH B (if (rdN most (B.drop a)).2.2 = 0 then a + (rdN most (B.drop a)).2.1 else a) (rdN most (B.drop a)).2.2) := by
  obtain ⟨k, rfl⟩ : ∃ j, k = j + 1 := ⟨k - 1, by omega⟩
  have hl : (B.drop a).length = B.length - a := List.length_drop ..
  have hmx : (140737488351232 : Nat) ≤ maxLen := by decide
  have hc := readU81 (B.drop a) (by omega) k (by omega)
  obtain ⟨r1, _, r2⟩ := rdU_b (B.drop a)
  unfold rdN
  generalize rdU (B.drop a) = r at *
  obtain ⟨n, q, e⟩ := r
  dsimp only at hc r1 r2 ⊢
  by_cases h0 : e = 0
  · subst h0
    have hw := wadd (a := a) (q := q) (by have := (r1 rfl).1; omega) hB
    by_cases g1 : most < n
    · simp only [ne_eq, not_true_eq_false, if_false, if_pos g1]
      rw [if_neg (by decide)]
      rw [icall_body rfl Try.func54]
      obtain ⟨lp, hlp⟩ : ∃ lp, lp = lpOf Try.prog cfg (icall Try.prog cfg k) Try.f54.ntmps 54 k ((rfH B a 0).map (·.1)) := ⟨_, rfl⟩
      rw [← hlp]
      conv => lhs; whnf
      refine iteO_t (by kernel_rfl) ?_
      conv => lhs; whnf
      refine nextK_of (aop_from (z := B) (a := a) rfl rfl rfl rfl rfl ha rfl) ?_
      conv => lhs; whnf
      refine nextK_of hc ?_
      conv => lhs; whnf
      refine iteO_t (by kernel_rfl) ?_
      conv => lhs; whnf
      refine iteK_dec (fun h1 => ?_) (fun h1 => ?_)
      · rw [dec_t h1]
        conv => lhs; whnf
        refine Eq.trans (b := some (Res.ret (AV.d (D.int IntKind.i64 (0 : Int))), [(Nm.arg (0 : Nat), AObj.cells [AV.d (D.list (bL B)), AV.d (D.int IntKind.i64 ↑a), AV.d (D.int IntKind.i64 (6 : Int))])])) (by kernel_rfl) ?_
        rfl
      · rw [dec_f h1]
        (exfalso; omega)
    · simp only [ne_eq, not_true_eq_false, if_false, if_neg g1, if_true]
      have hwn : IntKind.i64.wrap (n : Int) = (n : Int) := Go.Rx.wrap_i64 (by omega) (by omega)
      rw [icall_body rfl Try.func54]
      obtain ⟨lp, hlp⟩ : ∃ lp, lp = lpOf Try.prog cfg (icall Try.prog cfg k) Try.f54.ntmps 54 k ((rfH B a 0).map (·.1)) := ⟨_, rfl⟩
      rw [← hlp]
      conv => lhs; whnf
      refine iteO_t (by kernel_rfl) ?_
      conv => lhs; whnf
      refine nextK_of (aop_from (z := B) (a := a) rfl rfl rfl rfl rfl ha rfl) ?_
      conv => lhs; whnf
      refine nextK_of hc ?_
      conv => lhs; whnf
      refine iteO_t (by kernel_rfl) ?_
      conv => lhs; whnf
      refine iteK_dec (fun h1 => ?_) (fun h1 => ?_)
      · rw [dec_t h1]
        (exfalso; omega)
      · rw [dec_f h1]
        conv => lhs; whnf
        refine Eq.trans (b := some (Res.ret (AV.d (D.int IntKind.i64 (IntKind.wrap IntKind.i64 ↑n))), [(Nm.arg (0 : Nat), AObj.cells [AV.d (D.list (bL B)), AV.d (D.int IntKind.i64 (IntKind.wrap IntKind.i64 (↑a + ↑q))), AV.d (D.int IntKind.i64 (0 : Int))])])) (by kernel_rfl) ?_
        (exact (congrArg (fun z => some (Res.ret (.d (.int .i64 (IntKind.i64.wrap (n : Int)))), ([(.arg 0, .cells [.d (.list (bL B)), .d (.int .i64 z), .d (.int .i64 0)])] : Hp))) hw).trans (congrArg (fun z => some (Res.ret (.d (.int .i64 z)), rfH B (a + q) 0)) hwn))
  · simp only [ne_eq, h0, not_false_eq_true, if_true, if_false]
    obtain ⟨rfl, rfl⟩ := r2 h0
    rw [icall_body rfl Try.func54]
    obtain ⟨lp, hlp⟩ : ∃ lp, lp = lpOf Try.prog cfg (icall Try.prog cfg k) Try.f54.ntmps 54 k ((rfH B a 0).map (·.1)) := ⟨_, rfl⟩
    rw [← hlp]
    conv => lhs; whnf
    refine iteO_t (by kernel_rfl) ?_
    conv => lhs; whnf
    refine nextK_of (aop_from (z := B) (a := a) rfl rfl rfl rfl rfl ha rfl) ?_
    conv => lhs; whnf
    refine nextK_of hc ?_
    conv => lhs; whnf
    refine iteO_t (by kernel_rfl) ?_
    conv => lhs; whnf
    refine iteK_beq_f h0 ?_
    conv => lhs; whnf
    refine iteK_beq_f h0 ?_
    conv => lhs; whnf
    refine iteK_beq_f h0 ?_
    conv => lhs; whnf
    refine iteK_beq_f h0 ?_
    conv => lhs; whnf
    refine iteK_bne_t h0 ?_
    conv => lhs; whnf
    refine Eq.trans (b := some (Res.ret (AV.d (D.int IntKind.i64 (0 : Int))), [(Nm.arg (0 : Nat), AObj.cells [AV.d (D.list (bL B)), AV.d (D.int IntKind.i64 ↑a), AV.d (D.int IntKind.i64 e)])])) (by kernel_rfl) ?_
    rfl
theorem one82_e (B : List UInt8) (a : Nat) (e0 : Int) (he : e0 ≠ 0) (k : Nat) (hk : 0 < k) : icall Try.prog cfg k 82 [.ptr (.arg 0) 0] (rfH B a e0) = some (.ret (.d (.int .i64 0)), rfH B a e0) := by
  obtain ⟨k, rfl⟩ : ∃ j, k = j + 1 := ⟨k - 1, by omega⟩
  rw [icall_body rfl Try.func82]
  obtain ⟨lp, hlp⟩ : ∃ lp, lp = lpOf Try.prog cfg (icall Try.prog cfg k) Try.f82.ntmps 82 k ((rfH B a e0).map (·.1)) := ⟨_, rfl⟩
  rw [← hlp]
  conv => lhs; whnf
  refine iteK_bne_t he ?_
  conv => lhs; whnf
  refine Eq.trans (b := some (Res.ret (AV.d (D.int IntKind.i64 (0 : Int))), [(Nm.arg (0 : Nat), AObj.cells [AV.d (D.list (bL B)), AV.d (D.int IntKind.i64 ↑a), AV.d (D.int IntKind.i64 e0)])])) (by kernel_rfl) ?_
  rfl
theorem one82_0 (B : List UInt8) (hB : B.length ≤ 140737488351232) (a : Nat) (ha : a ≤ B.length) (k : Nat) (hk : 0 < k) : icall Try.prog cfg k 82 [.ptr (.arg 0) 0] (rfH B a 0) = some (.ret (.d (.int .i64 (rdO (B.drop a)).1)), rfH B (a + (rdO (B.drop a)).2.1) (rdO (B.drop a)).2.2) := by
  obtain ⟨k, rfl⟩ : ∃ j, k = j + 1 := ⟨k - 1, by omega⟩
  have hBb := bL_len B
  by_cases h : a < B.length
  · have hd : B.drop a = B[a] :: B.drop (a + 1) := List.drop_eq_getElem_cons h
    have hx : B[a]? = some B[a] := List.getElem?_eq_getElem h
    have hw : IntKind.i64.wrap ((a : Int) + 1) = ((a + 1 : Nat) : Int) := by rw [Go.Rx.wrap_i64 (by omega) (by omega)]; omega
    have hw2 : IntKind.i64.wrap (IntKind.i64.wrap ((a : Int) + 1) - 1) = ((a : Nat) : Int) := by rw [hw, Go.Rx.wrap_i64 (by omega) (by omega)]; omega
    generalize B[a] = c at *
    have hwc := wci c
    rw [hd]
    show icall Try.prog cfg _ _ _ _ = some (.ret (.d (.int .i64 c.toNat)), rfH B (a + 1) 0)
    rw [icall_body rfl Try.func82]
    obtain ⟨lp, hlp⟩ : ∃ lp, lp = lpOf Try.prog cfg (icall Try.prog cfg k) Try.f82.ntmps 82 k ((rfH B a 0).map (·.1)) := ⟨_, rfl⟩
    rw [← hlp]
    conv => lhs; whnf
    refine iteO_t (by kernel_rfl) ?_
    conv => lhs; whnf
    refine iteO_t (by kernel_rfl) ?_
    conv => lhs; whnf
    refine iteK_dec (fun h1 => ?_) (fun h1 => ?_)
    · rw [dec_t h1]
      (exfalso; omega)
    · rw [dec_f h1]
      conv => lhs; whnf
      refine iteO_t (by kernel_rfl) ?_
      conv => lhs; whnf
      refine nextK_of (aop_ix rfl rfl rfl rfl (ixL_at' (n := a) hw2 (bL_get hx) rfl)) ?_
      conv => lhs; whnf
      refine iteO_t (by kernel_rfl) ?_
      conv => lhs; whnf
      refine Eq.trans (b := some (Res.ret (AV.d (D.int IntKind.i64 (IntKind.wrap IntKind.i64 ↑c.toBitVec.toFin.1))), [(Nm.arg (0 : Nat), AObj.cells [AV.d (D.list (bL B)), AV.d (D.int IntKind.i64 (IntKind.wrap IntKind.i64 (↑a + (1 : Int)))), AV.d (D.int IntKind.i64 (0 : Int))])])) (by kernel_rfl) ?_
      (exact (congrArg (fun z => some (Res.ret (.d (.int .i64 (IntKind.i64.wrap (c.toNat : Int)))), ([(.arg 0, .cells [.d (.list (bL B)), .d (.int .i64 z), .d (.int .i64 0)])] : Hp))) hw).trans (congrArg (fun z => some (Res.ret (.d (.int .i64 z)), rfH B (a + 1) 0)) hwc))
  · rw [List.drop_eq_nil_of_le (by omega)]
    rw [icall_body rfl Try.func82]
    obtain ⟨lp, hlp⟩ : ∃ lp, lp = lpOf Try.prog cfg (icall Try.prog cfg k) Try.f82.ntmps 82 k ((rfH B a 0).map (·.1)) := ⟨_, rfl⟩
    rw [← hlp]
    conv => lhs; whnf
    refine iteO_t (by kernel_rfl) ?_
    conv => lhs; whnf
    refine iteO_t (by kernel_rfl) ?_
    conv => lhs; whnf
    refine iteK_dec (fun h1 => ?_) (fun h1 => ?_)
    · rw [dec_t h1]
      conv => lhs; whnf
      refine Eq.trans (b := some (Res.ret (AV.d (D.int IntKind.i64 (0 : Int))), [(Nm.arg (0 : Nat), AObj.cells [AV.d (D.list (bL B)), AV.d (D.int IntKind.i64 ↑a), AV.d (D.int IntKind.i64 (5 : Int))])])) (by kernel_rfl) ?_
      rfl
    · rw [dec_f h1]
      (exfalso; omega)
theorem maybe83_e (B : List UInt8) (a : Nat) (e0 : Int) (he : e0 ≠ 0) (k : Nat) (hk : 1 < k) : icall Try.prog cfg k 83 [.ptr (.arg 0) 0] (rfH B a e0) = some (.ret (.d (.list [])), rfH B a e0) := by
  obtain ⟨k, rfl⟩ : ∃ j, k = j + 1 := ⟨k - 1, by omega⟩
  have hc := one82_e B a e0 he k (by omega)
  rw [icall_body rfl Try.func83]
  obtain ⟨lp, hlp⟩ : ∃ lp, lp = lpOf Try.prog cfg (icall Try.prog cfg k) Try.f83.ntmps 83 k ((rfH B a e0).map (·.1)) := ⟨_, rfl⟩
  rw [← hlp]
  conv => lhs; whnf
  refine nextK_of hc ?_
  conv => lhs; whnf
  refine iteK_bne_t he ?_
  conv => lhs; whnf
  refine iteK_bne_t he ?_
  conv => lhs; whnf
  refine iteK_bne_t he ?_
  conv => lhs; whnf
  refine Eq.trans (b := some (Res.ret (AV.d (D.list [])), [(Nm.arg (0 : Nat), AObj.cells [AV.d (D.list (bL B)), AV.d (D.int IntKind.i64 ↑a), AV.d (D.int IntKind.i64 e0)])])) (by kernel_rfl) ?_
  rfl
theorem maybe83_0 (B : List UInt8) (hB : B.length ≤ 140737488351232) (a : Nat) (ha : a ≤ B.length) (k : Nat) (hk : (rdT 16 (B.drop a).tail).1.wt + 60 < k) : icall Try.prog cfg k 83 [.ptr (.arg 0) 0] (rfH B a 0) = some (.ret (.d (.list (cellsL (rdM (B.drop a)).1))), rfH B (a + (rdM (B.drop a)).2.1) (rdM (B.drop a)).2.2) := by
  obtain ⟨k, rfl⟩ : ∃ j, k = j + 1 := ⟨k - 1, by omega⟩
  have hc := one82_0 B hB a ha k (by omega)
  by_cases h : a < B.length
  · have hd : B.drop a = B[a] :: B.drop (a + 1) := List.drop_eq_getElem_cons h
    generalize B[a] = c at *
    rw [hd] at hc hk ⊢
    rw [List.tail_cons] at hk
    have e1 : rdO (c :: B.drop (a + 1)) = (c.toNat, 1, 0) := rfl
    rw [e1] at hc
    dsimp only at hc
    have hl : (B.drop (a + 1)).length = B.length - (a + 1) := List.length_drop ..
    have hx := readX16 (B.drop (a + 1)) (by omega) k (by omega)
    obtain ⟨r1, r2⟩ := rdX_b (B.drop (a + 1))
    rw [rdM]
    by_cases g0 : c.toNat = 0
    · rw [if_pos g0]
      rw [g0] at hc
      rw [icall_body rfl Try.func83]
      obtain ⟨lp, hlp⟩ : ∃ lp, lp = lpOf Try.prog cfg (icall Try.prog cfg k) Try.f83.ntmps 83 k ((rfH B a 0).map (·.1)) := ⟨_, rfl⟩
      rw [← hlp]
      conv => lhs; whnf
      refine nextK_of hc ?_
      conv => lhs; whnf
      refine Eq.trans (b := some (Res.ret (AV.d (D.list [])), [(Nm.arg (0 : Nat), AObj.cells [AV.d (D.list (bL B)), AV.d (D.int IntKind.i64 ↑(a + (1 : Nat))), AV.d (D.int IntKind.i64 (0 : Int))])])) (by kernel_rfl) ?_
      rfl
    · rw [if_neg g0]
      by_cases g1 : 1 < c.toNat
      · rw [if_pos g1]
        rw [icall_body rfl Try.func83]
        obtain ⟨lp, hlp⟩ : ∃ lp, lp = lpOf Try.prog cfg (icall Try.prog cfg k) Try.f83.ntmps 83 k ((rfH B a 0).map (·.1)) := ⟨_, rfl⟩
        rw [← hlp]
        conv => lhs; whnf
        refine nextK_of hc ?_
        conv => lhs; whnf
        refine iteK_beq (fun h1 => ?_) (fun h1 => ?_)
        · rw [beq_t h1]
          (exfalso; omega)
        · rw [beq_f h1]
          conv => lhs; whnf
          refine iteK_dec (fun h2 => ?_) (fun h2 => ?_)
          · rw [dec_t h2]
            conv => lhs; whnf
            refine Eq.trans (b := some (Res.ret (AV.d (D.list [])), [(Nm.arg (0 : Nat), AObj.cells [AV.d (D.list (bL B)), AV.d (D.int IntKind.i64 ↑(a + (1 : Nat))), AV.d (D.int IntKind.i64 (3 : Int))])])) (by kernel_rfl) ?_
            rfl
          · rw [dec_f h2]
            (exfalso; omega)
      · rw [if_neg g1]
        have g2 : c.toNat = 1 := by omega
        rw [g2] at hc
        generalize rdX (B.drop (a + 1)) = rx at *
        obtain ⟨⟨tk, tn, ts, tl⟩, q, e⟩ := rx
        dsimp only at hx r1 r2 ⊢
        have hq : a + 1 + q ≤ B.length := by
          by_cases h : e = 0
          · have := (r1 h).1; omega
          · have := r2 h
            injection this with _ this
            injection this with this _
            omega
        have hw : IntKind.i64.wrap (((a + 1 : Nat) : Int) + (q : Int)) = ((a + (1 + q) : Nat) : Int) := by rw [wadd hq hB]; omega
        rw [icall_body rfl Try.func83]
        obtain ⟨lp, hlp⟩ : ∃ lp, lp = lpOf Try.prog cfg (icall Try.prog cfg k) Try.f83.ntmps 83 k ((rfH B a 0).map (·.1)) := ⟨_, rfl⟩
        rw [← hlp]
        conv => lhs; whnf
        refine nextK_of hc ?_
        conv => lhs; whnf
        refine iteO_t (by kernel_rfl) ?_
        conv => lhs; whnf
        refine nextK_of (aop_from (z := B) (a := a + 1) rfl rfl rfl rfl rfl h rfl) ?_
        conv => lhs; whnf
        refine nextK_of hx ?_
        conv => lhs; whnf
        refine iteO_t (by kernel_rfl) ?_
        conv => lhs; whnf
        refine Eq.trans (b := some (Res.ret (AV.d (D.list [[D.int IntKind.i64 (T.kind (T.mk tk tn ts tl)), D.int IntKind.i64 (T.n (T.mk tk tn ts tl)), D.str (T.name (T.mk tk tn ts tl)), D.list (cellsL (T.kids (T.mk tk tn ts tl)))]])), [(Nm.arg (0 : Nat), AObj.cells [AV.d (D.list (bL B)), AV.d (D.int IntKind.i64 (IntKind.wrap IntKind.i64 (↑(a + (1 : Nat)) + ↑q))), AV.d (D.int IntKind.i64 e)])])) (by kernel_rfl) ?_
        (exact congrArg (fun z => some (Res.ret (.d (.list [[.int .i64 tk, .int .i64 tn, .str ts, .list (cellsL tl)]])), ([(.arg 0, .cells [.d (.list (bL B)), .d (.int .i64 z), .d (.int .i64 e)])] : Hp))) hw)
  · rw [List.drop_eq_nil_of_le (by omega)] at hc ⊢
    rw [icall_body rfl Try.func83]
    obtain ⟨lp, hlp⟩ : ∃ lp, lp = lpOf Try.prog cfg (icall Try.prog cfg k) Try.f83.ntmps 83 k ((rfH B a 0).map (·.1)) := ⟨_, rfl⟩
    rw [← hlp]
    conv => lhs; whnf
    refine nextK_of hc ?_
    conv => lhs; whnf
    refine Eq.trans (b := some (Res.ret (AV.d (D.list [])), [(Nm.arg (0 : Nat), AObj.cells [AV.d (D.list (bL B)), AV.d (D.int IntKind.i64 ↑(a + (rdO []).snd.fst)), AV.d (D.int IntKind.i64 (5 : Int))])])) (by kernel_rfl) ?_
    rfl
end Go.Rx11
