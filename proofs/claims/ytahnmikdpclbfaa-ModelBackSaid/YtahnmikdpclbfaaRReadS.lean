/- A part of the proof of the law: what functions of the program come to, walked by Rx, or plain facts on it. -/
import Derived.Test.YtahnmikdpclbfaaRReadT
open Go Go.Rx Go.Proofs Go.Rx11 Go.RxTree
set_option maxRecDepth 1000000
set_option maxHeartbeats 4000000
set_option linter.unusedVariables false
set_option linter.unusedSimpArgs false
namespace Go.Rx11
theorem kids77 (x : Int) (k : Nat) (hk : 0 < k) : icall Try.prog cfg k 77 [.d (.int .i64 x)] [] = some (.ret (.d (.int .i64 (kidsK x))), []) := by
  obtain ⟨k, rfl⟩ : ∃ j, k = j + 1 := ⟨k - 1, by omega⟩
  rw [icall_body rfl Try.func77]
  obtain ⟨lp, hlp⟩ : ∃ lp, lp = lpOf Try.prog cfg (icall Try.prog cfg k) Try.f77.ntmps 77 k (([] : Hp).map (·.1)) := ⟨_, rfl⟩
  rw [← hlp]
  conv => lhs; whnf
  refine iteK_beq (fun h1 => ?_) (fun h1 => ?_)
  · obtain rfl : x = (3 : Int) := h1
    conv => lhs; whnf
    refine Eq.trans (b := some (Res.ret (AV.d (D.int IntKind.i64 (0 : Int))), [])) (by kernel_rfl) ?_
    (rw [kidsK_0 (by omega)])
  · rw [beq_f h1]
    conv => lhs; whnf
    refine iteK_beq (fun h2 => ?_) (fun h2 => ?_)
    · obtain rfl : x = (4 : Int) := h2
      conv => lhs; whnf
      refine Eq.trans (b := some (Res.ret (AV.d (D.int IntKind.i64 (0 : Int))), [])) (by kernel_rfl) ?_
      (rw [kidsK_0 (by omega)])
    · rw [beq_f h2]
      conv => lhs; whnf
      refine iteK_beq (fun h3 => ?_) (fun h3 => ?_)
      · obtain rfl : x = (5 : Int) := h3
        conv => lhs; whnf
        refine Eq.trans (b := some (Res.ret (AV.d (D.int IntKind.i64 (1 : Int))), [])) (by kernel_rfl) ?_
        (rw [kidsK_1 (by omega)])
      · rw [beq_f h3]
        conv => lhs; whnf
        refine iteK_beq (fun h4 => ?_) (fun h4 => ?_)
        · obtain rfl : x = (6 : Int) := h4
          conv => lhs; whnf
          refine Eq.trans (b := some (Res.ret (AV.d (D.int IntKind.i64 (1 : Int))), [])) (by kernel_rfl) ?_
          (rw [kidsK_1 (by omega)])
        · rw [beq_f h4]
          conv => lhs; whnf
          refine iteK_dec (fun h5 => ?_) (fun h5 => ?_)
          · rw [dec_t h5]
            conv => lhs; whnf
            refine iteK_dec (fun h6 => ?_) (fun h6 => ?_)
            · rw [dec_t h6]
              conv => lhs; whnf
              refine Eq.trans (b := some (Res.ret (AV.d (D.int IntKind.i64 (2 : Int))), [])) (by kernel_rfl) ?_
              (rw [kidsK_2 (by omega)])
            · rw [dec_f h6]
              conv => lhs; whnf
              refine Eq.trans (b := some (Res.ret (AV.d (D.int IntKind.i64 (-1 : Int))), [])) (by kernel_rfl) ?_
              (rw [kidsK_n (by omega)])
          · rw [dec_f h5]
            conv => lhs; whnf
            refine Eq.trans (b := some (Res.ret (AV.d (D.int IntKind.i64 (-1 : Int))), [])) (by kernel_rfl) ?_
            (rw [kidsK_n (by omega)])
theorem wup (n : Nat) (hn : n + 1 ≤ maxLen) : IntKind.i64.wrap (1 + (n : Int)) = ((1 + n : Nat) : Int) := by
  have hmx : (maxLen : Int) ≤ 9223372036854775807 := by decide
  rw [Go.Rx.wrap_i64 (by omega) (by omega)]; omega
theorem wup2 (n p : Nat) (hn : n + p + 1 ≤ maxLen) : IntKind.i64.wrap (IntKind.i64.wrap (1 + (n : Int)) + (p : Int)) = ((1 + n + p : Nat) : Int) := by
  have hmx : (maxLen : Int) ≤ 9223372036854775807 := by decide
  rw [wup n (by omega), Go.Rx.wrap_i64 (by omega) (by omega)]; omega
/-- What the reference's reader of a tree comes to. -/
def R39 (k m : Nat) : Prop := ∀ (b : List UInt8) (z : Int), z = 17 - (m : Int) → b.length ≤ maxLen → icall Try.prog cfg k 39 [.d (.list (bL b)), .d (.int .i64 z)] [] = some (.ret (.tuple [(rdT m b).1.av, .d (.int .i64 (rdT m b).2.1), .d (.int .i64 (rdT m b).2.2)]), [])
theorem read39_a (k : Nat) (c : UInt8) (r : List UInt8) (z : Int) (hz : 1 ≤ z ∧ z ≤ 16) (hb : r.length + 1 ≤ maxLen) (n1 : Int) (q1 : Nat) (hq : q1 + 1 ≤ maxLen) (e1 : Int) (ci : icall Try.prog cfg (k + 3) 75 [.d (.list (bL r))] [] = some (.ret (.tuple [.d (.int .i64 n1), .d (.int .i64 q1), .d (.int .i64 e1)]), [])) (h : (c.toNat : Int) = 1) :
    icall Try.prog cfg (k + 3 + 1) 39 [.d (.list (bL (c :: r))), .d (.int .i64 z)] [] = some (.ret (.tuple [(T.mk 1 n1 [] []).av, .d (.int .i64 (1 + q1 : Nat)), .d (.int .i64 e1)]), []) := by
  have hw := wci c
  obtain ⟨B, hB⟩ : ∃ B, B = c :: r := ⟨_, rfl⟩
  have hB0 : B[0]? = some c := by rw [hB]; rfl
  have hB1 : B.drop 1 = r := by rw [hB]; rfl
  have hBl : B.length = r.length + 1 := by rw [hB]; rfl
  have hBb := bL_len B
  have hmx : (maxLen : Int) ≤ 9223372036854775807 := by decide
  rw [← hB]
  have hq1 := wup q1 hq
  rw [icall_body rfl Try.func39]
  generalize icall Try.prog cfg (k + 3) = ic at *
  as_aux_lemma =>
    obtain ⟨lp, hlp⟩ : ∃ lp, lp = lpOf Try.prog cfg ic Try.f39.ntmps 39 (k + 3) ((([] : Hp)).map (·.1)) := ⟨_, rfl⟩
    rw [← hlp]
    conv => lhs; whnf
    refine iteK_dec (fun h1 => ?_) (fun h1 => ?_)
    · rw [dec_t h1]
      (exfalso; omega)
    · rw [dec_f h1]
      conv => lhs; whnf
      refine iteK_beq (fun h2 => ?_) (fun h2 => ?_)
      · rw [beq_t h2]
        (exfalso; omega)
      · rw [beq_f h2]
        conv => lhs; whnf
        refine nextK_of (aop_ix rfl rfl rfl rfl (ixL_at' (n := 0) rfl (bL_get hB0) rfl)) ?_
        conv => lhs; whnf
        refine iteK_beq (fun h3 => ?_) (fun h3 => ?_)
        · rw [beq_t h3]
          conv => lhs; whnf
          refine nextK_of (aop_from (a := 1) (y := r) rfl rfl rfl rfl rfl (by omega) hB1) ?_
          conv => lhs; whnf
          refine nextK_of ci ?_
          conv => lhs; whnf
          refine Eq.trans (b := some (Res.ret (AV.tuple [AV.agg [AV.d (D.int IntKind.i64 (IntKind.wrap IntKind.i64 ↑c.toBitVec.toFin.1)), AV.d (D.int IntKind.i64 n1), AV.d (D.str []), AV.d (D.list [])], AV.d (D.int IntKind.i64 (IntKind.wrap IntKind.i64 ((1 : Int) + ↑q1))), AV.d (D.int IntKind.i64 e1)]), [])) (by kernel_rfl) ?_
          (exact (congrArg (fun q => some (Res.ret (.tuple [.agg [.d (.int .i64 q), .d (.int .i64 n1), .d (.str []), .d (.list [])], .d (.int .i64 (IntKind.i64.wrap (1 + (q1 : Int)))), .d (.int .i64 e1)]), ([] : Hp))) (hw.trans h)).trans (congrArg (fun q => some (Res.ret (.tuple [.agg [.d (.int .i64 1), .d (.int .i64 n1), .d (.str []), .d (.list [])], .d (.int .i64 q), .d (.int .i64 e1)]), ([] : Hp))) hq1))
        · rw [beq_f h3]
          (exfalso; omega)
theorem read39_b (k : Nat) (c : UInt8) (r : List UInt8) (z : Int) (hz : 1 ≤ z ∧ z ≤ 16) (hb : r.length + 1 ≤ maxLen) (s1 : List UInt8) (q1 : Nat) (hq : q1 + 1 ≤ maxLen) (e1 : Int) (ci : icall Try.prog cfg (k + 3) 76 [.d (.list (bL r))] [] = some (.ret (.tuple [.d (.list (bL s1)), .d (.int .i64 q1), .d (.int .i64 e1)]), [])) (h : (c.toNat : Int) = 2) :
    icall Try.prog cfg (k + 3 + 1) 39 [.d (.list (bL (c :: r))), .d (.int .i64 z)] [] = some (.ret (.tuple [(T.mk 2 0 s1 []).av, .d (.int .i64 (1 + q1 : Nat)), .d (.int .i64 e1)]), []) := by
  have hw := wci c
  obtain ⟨B, hB⟩ : ∃ B, B = c :: r := ⟨_, rfl⟩
  have hB0 : B[0]? = some c := by rw [hB]; rfl
  have hB1 : B.drop 1 = r := by rw [hB]; rfl
  have hBl : B.length = r.length + 1 := by rw [hB]; rfl
  have hBb := bL_len B
  have hmx : (maxLen : Int) ≤ 9223372036854775807 := by decide
  rw [← hB]
  have hq1 := wup q1 hq
  rw [icall_body rfl Try.func39]
  generalize icall Try.prog cfg (k + 3) = ic at *
  as_aux_lemma =>
    obtain ⟨lp, hlp⟩ : ∃ lp, lp = lpOf Try.prog cfg ic Try.f39.ntmps 39 (k + 3) ((([] : Hp)).map (·.1)) := ⟨_, rfl⟩
    rw [← hlp]
    conv => lhs; whnf
    refine iteK_dec (fun h1 => ?_) (fun h1 => ?_)
    · rw [dec_t h1]
      (exfalso; omega)
    · rw [dec_f h1]
      conv => lhs; whnf
      refine iteK_beq (fun h2 => ?_) (fun h2 => ?_)
      · rw [beq_t h2]
        (exfalso; omega)
      · rw [beq_f h2]
        conv => lhs; whnf
        refine nextK_of (aop_ix rfl rfl rfl rfl (ixL_at' (n := 0) rfl (bL_get hB0) rfl)) ?_
        conv => lhs; whnf
        refine iteK_beq (fun h3 => ?_) (fun h3 => ?_)
        · rw [beq_t h3]
          (exfalso; omega)
        · rw [beq_f h3]
          conv => lhs; whnf
          refine iteK_beq (fun h4 => ?_) (fun h4 => ?_)
          · rw [beq_t h4]
            conv => lhs; whnf
            refine nextK_of (aop_from (a := 1) (y := r) rfl rfl rfl rfl rfl (by omega) hB1) ?_
            conv => lhs; whnf
            refine nextK_of ci ?_
            conv => lhs; whnf
            refine nextK_of (aop_text rfl rfl rfl rfl) ?_
            conv => lhs; whnf
            refine Eq.trans (b := some (Res.ret (AV.tuple [AV.agg [AV.d (D.int IntKind.i64 (IntKind.wrap IntKind.i64 ↑c.toBitVec.toFin.1)), AV.d (D.int IntKind.i64 (0 : Int)), AV.d (D.str s1), AV.d (D.list [])], AV.d (D.int IntKind.i64 (IntKind.wrap IntKind.i64 ((1 : Int) + ↑q1))), AV.d (D.int IntKind.i64 e1)]), [])) (by kernel_rfl) ?_
            (exact (congrArg (fun q => some (Res.ret (.tuple [.agg [.d (.int .i64 q), .d (.int .i64 0), .d (.str s1), .d (.list [])], .d (.int .i64 (IntKind.i64.wrap (1 + (q1 : Int)))), .d (.int .i64 e1)]), ([] : Hp))) (hw.trans h)).trans (congrArg (fun q => some (Res.ret (.tuple [.agg [.d (.int .i64 2), .d (.int .i64 0), .d (.str s1), .d (.list [])], .d (.int .i64 q), .d (.int .i64 e1)]), ([] : Hp))) hq1))
          · rw [beq_f h4]
            (exfalso; omega)
theorem read39_0 (k : Nat) (c : UInt8) (r : List UInt8) (z : Int) (hz : 1 ≤ z ∧ z ≤ 16) (hb : r.length + 1 ≤ maxLen) (h : (c.toNat : Int) = 3 ∨ (c.toNat : Int) = 4) :
    icall Try.prog cfg (k + 3 + 1) 39 [.d (.list (bL (c :: r))), .d (.int .i64 z)] [] = some (.ret (.tuple [(T.mk c.toNat 0 [] []).av, .d (.int .i64 1), .d (.int .i64 0)]), []) := by
  obtain ⟨kx, hkx⟩ : ∃ kx, icall Try.prog cfg (k + 3) 77 [.d (.int .i64 (IntKind.i64.wrap c.toNat))] [] = some (.ret (.d (.int .i64 0)), []) ∧ kx = 0 := ⟨0, by rw [wci c]; exact (kids77 _ _ (by omega)).trans (by rw [kidsK_0 h]), rfl⟩
  have hkk := hkx.1
  have hw := wci c
  obtain ⟨B, hB⟩ : ∃ B, B = c :: r := ⟨_, rfl⟩
  have hB0 : B[0]? = some c := by rw [hB]; rfl
  have hB1 : B.drop 1 = r := by rw [hB]; rfl
  have hBl : B.length = r.length + 1 := by rw [hB]; rfl
  have hBb := bL_len B
  have hmx : (maxLen : Int) ≤ 9223372036854775807 := by decide
  rw [← hB]
  rw [icall_body rfl Try.func39]
  generalize icall Try.prog cfg (k + 3) = ic at *
  as_aux_lemma =>
    obtain ⟨lp, hlp⟩ : ∃ lp, lp = lpOf Try.prog cfg ic Try.f39.ntmps 39 (k + 3) ((([] : Hp)).map (·.1)) := ⟨_, rfl⟩
    rw [← hlp]
    conv => lhs; whnf
    refine iteK_dec (fun h1 => ?_) (fun h1 => ?_)
    · rw [dec_t h1]
      (exfalso; omega)
    · rw [dec_f h1]
      conv => lhs; whnf
      refine iteK_beq (fun h2 => ?_) (fun h2 => ?_)
      · rw [beq_t h2]
        (exfalso; omega)
      · rw [beq_f h2]
        conv => lhs; whnf
        refine nextK_of (aop_ix rfl rfl rfl rfl (ixL_at' (n := 0) rfl (bL_get hB0) rfl)) ?_
        conv => lhs; whnf
        refine iteK_beq (fun h3 => ?_) (fun h3 => ?_)
        · rw [beq_t h3]
          (exfalso; omega)
        · rw [beq_f h3]
          conv => lhs; whnf
          refine iteK_beq (fun h4 => ?_) (fun h4 => ?_)
          · rw [beq_t h4]
            (exfalso; omega)
          · rw [beq_f h4]
            conv => lhs; whnf
            refine nextK_of hkk ?_
            conv => lhs; whnf
            refine (loop_goE hlp ?_)
            conv => lhs; whnf
            refine nextK_of (holdO_of (a := St.mk [((0 : Nat), AV.d (D.list (bL B))), ((1 : Nat), AV.d (D.int IntKind.i64 z)), ((4 : Nat), AV.ptr (Nm.slot (4 : Nat)) (0 : Nat)), ((14 : Nat), AV.d (D.int IntKind.i64 (0 : Int))), ((15 : Nat), AV.ptr (Nm.slot (15 : Nat)) (0 : Nat)), ((16 : Nat), AV.d (D.int IntKind.i64 (1 : Int))), ((17 : Nat), AV.d (D.int IntKind.i64 (0 : Int)))] [(Nm.slot (4 : Nat), AObj.cells [AV.d (D.int IntKind.i64 (0 : Int)), AV.d (D.int IntKind.i64 (0 : Int)), AV.d (D.str []), AV.nilsl]), (Nm.slot (15 : Nat), AObj.cells [AV.d (D.int IntKind.i64 (IntKind.wrap IntKind.i64 ↑c.toBitVec.toFin.1)), AV.d (D.int IntKind.i64 (0 : Int)), AV.d (D.str []), AV.nilsl])]) (by kernel_rfl)) ?_
            conv => lhs; whnf
            refine nextK_of (holdO_of (a := (Fx.exit (0 : Nat), St.mk [((4 : Nat), AV.ptr (Nm.slot (4 : Nat)) (0 : Nat)), ((5 : Nat), AV.undef), ((6 : Nat), AV.undef), ((15 : Nat), AV.ptr (Nm.slot (15 : Nat)) (0 : Nat)), ((16 : Nat), AV.d (D.int IntKind.i64 (1 : Int)))] [(Nm.slot (4 : Nat), AObj.cells [AV.d (D.int IntKind.i64 (0 : Int)), AV.d (D.int IntKind.i64 (0 : Int)), AV.d (D.str []), AV.nilsl]), (Nm.slot (15 : Nat), AObj.cells [AV.d (D.int IntKind.i64 (IntKind.wrap IntKind.i64 ↑c.toBitVec.toFin.1)), AV.d (D.int IntKind.i64 (0 : Int)), AV.d (D.str []), AV.nilsl])])) (by kernel_rfl)) ?_
            conv => lhs; whnf
            refine Eq.trans (b := some (Res.ret (AV.tuple [AV.agg [AV.d (D.int IntKind.i64 (IntKind.wrap IntKind.i64 ↑c.toBitVec.toFin.1)), AV.d (D.int IntKind.i64 (0 : Int)), AV.d (D.str []), AV.d (D.list [])], AV.d (D.int IntKind.i64 (1 : Int)), AV.d (D.int IntKind.i64 (0 : Int))]), [])) (by kernel_rfl) ?_
            (exact congrArg (fun q => some (Res.ret (.tuple [.agg [.d (.int .i64 q), .d (.int .i64 0), .d (.str []), .d (.list [])], .d (.int .i64 1), .d (.int .i64 0)]), ([] : Hp))) hw)
theorem read39_n (k : Nat) (c : UInt8) (r : List UInt8) (z : Int) (hz : 1 ≤ z ∧ z ≤ 16) (hb : r.length + 1 ≤ maxLen) (h : (c.toNat : Int) < 1 ∨ 14 < (c.toNat : Int)) :
    icall Try.prog cfg (k + 3 + 1) 39 [.d (.list (bL (c :: r))), .d (.int .i64 z)] [] = some (.ret (.tuple [(T.mk 0 0 [] []).av, .d (.int .i64 0), .d (.int .i64 3)]), []) := by
  obtain ⟨kx, hkx⟩ : ∃ kx, icall Try.prog cfg (k + 3) 77 [.d (.int .i64 (IntKind.i64.wrap c.toNat))] [] = some (.ret (.d (.int .i64 (-1))), []) ∧ kx = 0 := ⟨0, by rw [wci c]; exact (kids77 _ _ (by omega)).trans (by rw [kidsK_n (by omega)]), rfl⟩
  have hkk := hkx.1
  have hw := wci c
  obtain ⟨B, hB⟩ : ∃ B, B = c :: r := ⟨_, rfl⟩
  have hB0 : B[0]? = some c := by rw [hB]; rfl
  have hB1 : B.drop 1 = r := by rw [hB]; rfl
  have hBl : B.length = r.length + 1 := by rw [hB]; rfl
  have hBb := bL_len B
  have hmx : (maxLen : Int) ≤ 9223372036854775807 := by decide
  rw [← hB]
  rw [icall_body rfl Try.func39]
  generalize icall Try.prog cfg (k + 3) = ic at *
  as_aux_lemma =>
    obtain ⟨lp, hlp⟩ : ∃ lp, lp = lpOf Try.prog cfg ic Try.f39.ntmps 39 (k + 3) ((([] : Hp)).map (·.1)) := ⟨_, rfl⟩
    rw [← hlp]
    conv => lhs; whnf
    refine iteK_dec (fun h1 => ?_) (fun h1 => ?_)
    · rw [dec_t h1]
      (exfalso; omega)
    · rw [dec_f h1]
      conv => lhs; whnf
      refine iteK_beq (fun h2 => ?_) (fun h2 => ?_)
      · rw [beq_t h2]
        (exfalso; omega)
      · rw [beq_f h2]
        conv => lhs; whnf
        refine nextK_of (aop_ix rfl rfl rfl rfl (ixL_at' (n := 0) rfl (bL_get hB0) rfl)) ?_
        conv => lhs; whnf
        refine iteK_beq (fun h3 => ?_) (fun h3 => ?_)
        · rw [beq_t h3]
          (exfalso; omega)
        · rw [beq_f h3]
          conv => lhs; whnf
          refine iteK_beq (fun h4 => ?_) (fun h4 => ?_)
          · rw [beq_t h4]
            (exfalso; omega)
          · rw [beq_f h4]
            conv => lhs; whnf
            refine nextK_of hkk ?_
            conv => lhs; whnf
            refine Eq.trans (b := some (Res.ret (AV.tuple [AV.agg [AV.d (D.int IntKind.i64 (0 : Int)), AV.d (D.int IntKind.i64 (0 : Int)), AV.d (D.str []), AV.d (D.list [])], AV.d (D.int IntKind.i64 (0 : Int)), AV.d (D.int IntKind.i64 (3 : Int))]), [])) (by kernel_rfl) ?_
            rfl
theorem read39_1e (k : Nat) (c : UInt8) (r : List UInt8) (z : Int) (hz : 1 ≤ z ∧ z ≤ 16) (hb : r.length + 1 ≤ maxLen) (nk : Int) (hnk : nk = 1 ∨ nk = 2) (hkn : kidsK c.toNat = nk) (t1 : T) (q1 : Nat) (e1 : Int) (g1 : e1 ≠ 0) (ih : icall Try.prog cfg (k + 3) 39 [.d (.list (bL r)), .d (.int .i64 (IntKind.i64.wrap (z + 1)))] [] = some (.ret (.tuple [t1.av, .d (.int .i64 q1), .d (.int .i64 e1)]), [])) (h : 5 ≤ (c.toNat : Int) ∧ (c.toNat : Int) ≤ 14) :
    icall Try.prog cfg (k + 3 + 1) 39 [.d (.list (bL (c :: r))), .d (.int .i64 z)] [] = some (.ret (.tuple [(T.mk 0 0 [] []).av, .d (.int .i64 0), .d (.int .i64 e1)]), []) := by
  obtain ⟨kx, hkx⟩ : ∃ kx, icall Try.prog cfg (k + 3) 77 [.d (.int .i64 (IntKind.i64.wrap c.toNat))] [] = some (.ret (.d (.int .i64 nk)), []) ∧ kx = 0 := ⟨0, by rw [wci c]; exact (kids77 _ _ (by omega)).trans (by rw [hkn]), rfl⟩
  have hkk := hkx.1
  have hw := wci c
  obtain ⟨B, hB⟩ : ∃ B, B = c :: r := ⟨_, rfl⟩
  have hB0 : B[0]? = some c := by rw [hB]; rfl
  have hB1 : B.drop 1 = r := by rw [hB]; rfl
  have hBl : B.length = r.length + 1 := by rw [hB]; rfl
  have hBb := bL_len B
  have hmx : (maxLen : Int) ≤ 9223372036854775807 := by decide
  rw [← hB]
  rw [icall_body rfl Try.func39]
  generalize icall Try.prog cfg (k + 3) = ic at *
  as_aux_lemma =>
    obtain ⟨lp, hlp⟩ : ∃ lp, lp = lpOf Try.prog cfg ic Try.f39.ntmps 39 (k + 3) ((([] : Hp)).map (·.1)) := ⟨_, rfl⟩
    rw [← hlp]
    conv => lhs; whnf
    refine iteK_dec (fun h1 => ?_) (fun h1 => ?_)
    · rw [dec_t h1]
      (exfalso; omega)
    · rw [dec_f h1]
      conv => lhs; whnf
      refine iteK_beq (fun h2 => ?_) (fun h2 => ?_)
      · rw [beq_t h2]
        (exfalso; omega)
      · rw [beq_f h2]
        conv => lhs; whnf
        refine nextK_of (aop_ix rfl rfl rfl rfl (ixL_at' (n := 0) rfl (bL_get hB0) rfl)) ?_
        conv => lhs; whnf
        refine iteK_beq (fun h3 => ?_) (fun h3 => ?_)
        · rw [beq_t h3]
          (exfalso; omega)
        · rw [beq_f h3]
          conv => lhs; whnf
          refine iteK_beq (fun h4 => ?_) (fun h4 => ?_)
          · rw [beq_t h4]
            (exfalso; omega)
          · rw [beq_f h4]
            conv => lhs; whnf
            refine nextK_of hkk ?_
            conv => lhs; whnf
            refine iteK_dec (fun h5 => ?_) (fun h5 => ?_)
            · rw [dec_t h5]
              (exfalso; omega)
            · rw [dec_f h5]
              conv => lhs; whnf
              refine (loop_goE hlp ?_)
              conv => lhs; whnf
              refine nextK_of (holdO_of (a := St.mk [((0 : Nat), AV.d (D.list (bL B))), ((1 : Nat), AV.d (D.int IntKind.i64 z)), ((4 : Nat), AV.ptr (Nm.slot (4 : Nat)) (0 : Nat)), ((14 : Nat), AV.d (D.int IntKind.i64 nk)), ((15 : Nat), AV.ptr (Nm.slot (15 : Nat)) (0 : Nat)), ((16 : Nat), AV.d (D.int IntKind.i64 (1 : Int))), ((17 : Nat), AV.d (D.int IntKind.i64 (0 : Int)))] [(Nm.slot (4 : Nat), AObj.cells [AV.d (D.int IntKind.i64 (0 : Int)), AV.d (D.int IntKind.i64 (0 : Int)), AV.d (D.str []), AV.nilsl]), (Nm.slot (15 : Nat), AObj.cells [AV.d (D.int IntKind.i64 (IntKind.wrap IntKind.i64 ↑c.toBitVec.toFin.1)), AV.d (D.int IntKind.i64 (0 : Int)), AV.d (D.str []), AV.nilsl])]) (by kernel_rfl)) ?_
              conv => lhs; whnf
              refine iteK_dec (fun h6 => ?_) (fun h6 => ?_)
              · rw [dec_t h6]
                conv => lhs; whnf
                refine nextK_of (aop_from (a := 1) (y := r) rfl rfl rfl rfl rfl (by omega) hB1) ?_
                conv => lhs; whnf
                refine nextK_of ih ?_
                conv => lhs; whnf
                refine iteK_bne_t g1 ?_
                conv => lhs; whnf
                refine nextK_of (holdO_of (a := (Fx.ret, St.mk [((4 : Nat), AV.ptr (Nm.slot (4 : Nat)) (0 : Nat)), ((5 : Nat), AV.d (D.int IntKind.i64 (0 : Int))), ((6 : Nat), AV.d (D.int IntKind.i64 e1)), ((15 : Nat), AV.ptr (Nm.slot (15 : Nat)) (0 : Nat)), ((16 : Nat), AV.d (D.int IntKind.i64 (1 : Int)))] [(Nm.slot (4 : Nat), AObj.cells [AV.d (D.int IntKind.i64 (0 : Int)), AV.d (D.int IntKind.i64 (0 : Int)), AV.d (D.str []), AV.nilsl]), (Nm.slot (15 : Nat), AObj.cells [AV.d (D.int IntKind.i64 (IntKind.wrap IntKind.i64 ↑c.toBitVec.toFin.1)), AV.d (D.int IntKind.i64 (0 : Int)), AV.d (D.str []), AV.nilsl])])) (by kernel_rfl)) ?_
                conv => lhs; whnf
                refine Eq.trans (b := some (Res.ret (AV.tuple [AV.agg [AV.d (D.int IntKind.i64 (0 : Int)), AV.d (D.int IntKind.i64 (0 : Int)), AV.d (D.str []), AV.d (D.list [])], AV.d (D.int IntKind.i64 (0 : Int)), AV.d (D.int IntKind.i64 e1)]), [])) (by kernel_rfl) ?_
                rfl
              · rw [dec_f h6]
                (exfalso; omega)
theorem read39_1 (k : Nat) (c : UInt8) (r : List UInt8) (z : Int) (hz : 1 ≤ z ∧ z ≤ 16) (hb : r.length + 1 ≤ maxLen) (t1 : T) (q1 : Nat) (hq : q1 ≤ r.length) (ih : icall Try.prog cfg (k + 3) 39 [.d (.list (bL r)), .d (.int .i64 (IntKind.i64.wrap (z + 1)))] [] = some (.ret (.tuple [t1.av, .d (.int .i64 q1), .d (.int .i64 0)]), [])) (h : (c.toNat : Int) = 5 ∨ (c.toNat : Int) = 6) :
    icall Try.prog cfg (k + 3 + 1) 39 [.d (.list (bL (c :: r))), .d (.int .i64 z)] [] = some (.ret (.tuple [(T.mk c.toNat 0 [] [t1]).av, .d (.int .i64 (1 + q1 : Nat)), .d (.int .i64 0)]), []) := by
  obtain ⟨tk, tn, ts, tl⟩ := t1
  obtain ⟨kx, hkx⟩ : ∃ kx, icall Try.prog cfg (k + 3) 77 [.d (.int .i64 (IntKind.i64.wrap c.toNat))] [] = some (.ret (.d (.int .i64 1)), []) ∧ kx = 0 := ⟨0, by rw [wci c]; exact (kids77 _ _ (by omega)).trans (by rw [kidsK_1 h]), rfl⟩
  have hkk := hkx.1
  have hw := wci c
  obtain ⟨B, hB⟩ : ∃ B, B = c :: r := ⟨_, rfl⟩
  have hB0 : B[0]? = some c := by rw [hB]; rfl
  have hB1 : B.drop 1 = r := by rw [hB]; rfl
  have hBl : B.length = r.length + 1 := by rw [hB]; rfl
  have hBb := bL_len B
  have hmx : (maxLen : Int) ≤ 9223372036854775807 := by decide
  rw [← hB]
  have hq1 := wup q1 (by omega)
  rw [icall_body rfl Try.func39]
  generalize icall Try.prog cfg (k + 3) = ic at *
  as_aux_lemma =>
    obtain ⟨lp, hlp⟩ : ∃ lp, lp = lpOf Try.prog cfg ic Try.f39.ntmps 39 (k + 3) ((([] : Hp)).map (·.1)) := ⟨_, rfl⟩
    rw [← hlp]
    conv => lhs; whnf
    refine iteK_dec (fun h1 => ?_) (fun h1 => ?_)
    · rw [dec_t h1]
      (exfalso; omega)
    · rw [dec_f h1]
      conv => lhs; whnf
      refine iteK_beq (fun h2 => ?_) (fun h2 => ?_)
      · rw [beq_t h2]
        (exfalso; omega)
      · rw [beq_f h2]
        conv => lhs; whnf
        refine nextK_of (aop_ix rfl rfl rfl rfl (ixL_at' (n := 0) rfl (bL_get hB0) rfl)) ?_
        conv => lhs; whnf
        refine iteK_beq (fun h3 => ?_) (fun h3 => ?_)
        · rw [beq_t h3]
          (exfalso; omega)
        · rw [beq_f h3]
          conv => lhs; whnf
          refine iteK_beq (fun h4 => ?_) (fun h4 => ?_)
          · rw [beq_t h4]
            (exfalso; omega)
          · rw [beq_f h4]
            conv => lhs; whnf
            refine nextK_of hkk ?_
            conv => lhs; whnf
            refine (loop_goE hlp ?_)
            conv => lhs; whnf
            refine nextK_of (holdO_of (a := St.mk [((0 : Nat), AV.d (D.list (bL B))), ((1 : Nat), AV.d (D.int IntKind.i64 z)), ((4 : Nat), AV.ptr (Nm.slot (4 : Nat)) (0 : Nat)), ((14 : Nat), AV.d (D.int IntKind.i64 (1 : Int))), ((15 : Nat), AV.ptr (Nm.slot (15 : Nat)) (0 : Nat)), ((16 : Nat), AV.d (D.int IntKind.i64 (1 : Int))), ((17 : Nat), AV.d (D.int IntKind.i64 (0 : Int)))] [(Nm.slot (4 : Nat), AObj.cells [AV.d (D.int IntKind.i64 (0 : Int)), AV.d (D.int IntKind.i64 (0 : Int)), AV.d (D.str []), AV.nilsl]), (Nm.slot (15 : Nat), AObj.cells [AV.d (D.int IntKind.i64 (IntKind.wrap IntKind.i64 ↑c.toBitVec.toFin.1)), AV.d (D.int IntKind.i64 (0 : Int)), AV.d (D.str []), AV.nilsl])]) (by kernel_rfl)) ?_
            conv => lhs; whnf
            refine nextK_of (aop_from (a := 1) (y := r) rfl rfl rfl rfl rfl (by omega) hB1) ?_
            conv => lhs; whnf
            refine nextK_of ih ?_
            conv => lhs; whnf
            refine nextK_of (holdO_of (a := St.mk [((0 : Nat), AV.d (D.list (bL B))), ((1 : Nat), AV.d (D.int IntKind.i64 z)), ((4 : Nat), AV.ptr (Nm.slot (4 : Nat)) (0 : Nat)), ((14 : Nat), AV.d (D.int IntKind.i64 (1 : Int))), ((15 : Nat), AV.ptr (Nm.slot (15 : Nat)) (0 : Nat)), ((16 : Nat), AV.d (D.int IntKind.i64 (IntKind.wrap IntKind.i64 ((1 : Int) + ↑q1)))), ((17 : Nat), AV.d (D.int IntKind.i64 (1 : Int)))] [(Nm.slot (4 : Nat), AObj.cells [AV.d (D.int IntKind.i64 (0 : Int)), AV.d (D.int IntKind.i64 (0 : Int)), AV.d (D.str []), AV.nilsl]), (Nm.slot (15 : Nat), AObj.cells [AV.d (D.int IntKind.i64 (IntKind.wrap IntKind.i64 ↑c.toBitVec.toFin.1)), AV.d (D.int IntKind.i64 (0 : Int)), AV.d (D.str []), AV.own (Nm.slot (93 : Nat)) (nat_lit 0) (List.length [[D.int IntKind.i64 (T.kind (T.mk tk tn ts tl)), D.int IntKind.i64 (T.n (T.mk tk tn ts tl)), D.str (T.name (T.mk tk tn ts tl)), D.list (cellsL (T.kids (T.mk tk tn ts tl)))]])]), (Nm.slot (93 : Nat), AObj.arr (31 : Nat) (4 : Nat) (nat_lit 0) [[D.int IntKind.i64 (T.kind (T.mk tk tn ts tl)), D.int IntKind.i64 (T.n (T.mk tk tn ts tl)), D.str (T.name (T.mk tk tn ts tl)), D.list (cellsL (T.kids (T.mk tk tn ts tl)))]])]) (by kernel_rfl)) ?_
            conv => lhs; whnf
            refine nextK_of (holdO_of (a := (Fx.exit (0 : Nat), St.mk [((4 : Nat), AV.ptr (Nm.slot (4 : Nat)) (0 : Nat)), ((5 : Nat), AV.undef), ((6 : Nat), AV.undef), ((15 : Nat), AV.ptr (Nm.slot (15 : Nat)) (0 : Nat)), ((16 : Nat), AV.d (D.int IntKind.i64 (IntKind.wrap IntKind.i64 ((1 : Int) + ↑q1))))] [(Nm.slot (4 : Nat), AObj.cells [AV.d (D.int IntKind.i64 (0 : Int)), AV.d (D.int IntKind.i64 (0 : Int)), AV.d (D.str []), AV.nilsl]), (Nm.slot (15 : Nat), AObj.cells [AV.d (D.int IntKind.i64 (IntKind.wrap IntKind.i64 ↑c.toBitVec.toFin.1)), AV.d (D.int IntKind.i64 (0 : Int)), AV.d (D.str []), AV.own (Nm.slot (93 : Nat)) (nat_lit 0) (List.length [[D.int IntKind.i64 (T.kind (T.mk tk tn ts tl)), D.int IntKind.i64 (T.n (T.mk tk tn ts tl)), D.str (T.name (T.mk tk tn ts tl)), D.list (cellsL (T.kids (T.mk tk tn ts tl)))]])]), (Nm.slot (93 : Nat), AObj.arr (31 : Nat) (4 : Nat) (nat_lit 0) [[D.int IntKind.i64 (T.kind (T.mk tk tn ts tl)), D.int IntKind.i64 (T.n (T.mk tk tn ts tl)), D.str (T.name (T.mk tk tn ts tl)), D.list (cellsL (T.kids (T.mk tk tn ts tl)))]])])) (by kernel_rfl)) ?_
            conv => lhs; whnf
            refine Eq.trans (b := some (Res.ret (AV.tuple [AV.agg [AV.d (D.int IntKind.i64 (IntKind.wrap IntKind.i64 ↑c.toBitVec.toFin.1)), AV.d (D.int IntKind.i64 (0 : Int)), AV.d (D.str []), AV.d (D.list [[D.int IntKind.i64 (T.kind (T.mk tk tn ts tl)), D.int IntKind.i64 (T.n (T.mk tk tn ts tl)), D.str (T.name (T.mk tk tn ts tl)), D.list (cellsL (T.kids (T.mk tk tn ts tl)))]])], AV.d (D.int IntKind.i64 (IntKind.wrap IntKind.i64 ((1 : Int) + ↑q1))), AV.d (D.int IntKind.i64 (0 : Int))]), [])) (by kernel_rfl) ?_
            (exact (congrArg (fun q => some (Res.ret (.tuple [.agg [.d (.int .i64 q), .d (.int .i64 0), .d (.str []), .d (.list [[.int .i64 tk, .int .i64 tn, .str ts, .list (cellsL tl)]])], .d (.int .i64 (IntKind.i64.wrap (1 + (q1 : Int)))), .d (.int .i64 0)]), ([] : Hp))) hw).trans (congrArg (fun q => some (Res.ret (.tuple [.agg [.d (.int .i64 c.toNat), .d (.int .i64 0), .d (.str []), .d (.list [[.int .i64 tk, .int .i64 tn, .str ts, .list (cellsL tl)]])], .d (.int .i64 q), .d (.int .i64 0)]), ([] : Hp))) hq1))
theorem read39_2e (k : Nat) (c : UInt8) (r : List UInt8) (z : Int) (hz : 1 ≤ z ∧ z ≤ 16) (hb : r.length + 1 ≤ maxLen) (t1 t2 : T) (q1 q2 : Nat) (hq : q1 ≤ r.length) (e2 : Int) (g2 : e2 ≠ 0) (ih : icall Try.prog cfg (k + 3) 39 [.d (.list (bL r)), .d (.int .i64 (IntKind.i64.wrap (z + 1)))] [] = some (.ret (.tuple [t1.av, .d (.int .i64 q1), .d (.int .i64 0)]), [])) (ih2 : icall Try.prog cfg (k + 3) 39 [.d (.list (bL (r.drop q1))), .d (.int .i64 (IntKind.i64.wrap (z + 1)))] [] = some (.ret (.tuple [t2.av, .d (.int .i64 q2), .d (.int .i64 e2)]), [])) (h : 7 ≤ (c.toNat : Int) ∧ (c.toNat : Int) ≤ 14) :
    icall Try.prog cfg (k + 3 + 1) 39 [.d (.list (bL (c :: r))), .d (.int .i64 z)] [] = some (.ret (.tuple [(T.mk 0 0 [] []).av, .d (.int .i64 0), .d (.int .i64 e2)]), []) := by
  obtain ⟨tk, tn, ts, tl⟩ := t1
  obtain ⟨kx, hkx⟩ : ∃ kx, icall Try.prog cfg (k + 3) 77 [.d (.int .i64 (IntKind.i64.wrap c.toNat))] [] = some (.ret (.d (.int .i64 2)), []) ∧ kx = 0 := ⟨0, by rw [wci c]; exact (kids77 _ _ (by omega)).trans (by rw [kidsK_2 h]), rfl⟩
  have hkk := hkx.1
  have hw := wci c
  obtain ⟨B, hB⟩ : ∃ B, B = c :: r := ⟨_, rfl⟩
  have hB0 : B[0]? = some c := by rw [hB]; rfl
  have hB1 : B.drop 1 = r := by rw [hB]; rfl
  have hBl : B.length = r.length + 1 := by rw [hB]; rfl
  have hBb := bL_len B
  have hmx : (maxLen : Int) ≤ 9223372036854775807 := by decide
  rw [← hB]
  have hq1 := wup q1 (by omega)
  have hB2 : B.drop (1 + q1) = r.drop q1 := by rw [hB, Nat.add_comm 1, List.drop_succ_cons]
  rw [icall_body rfl Try.func39]
  generalize icall Try.prog cfg (k + 3) = ic at *
  as_aux_lemma =>
    obtain ⟨lp, hlp⟩ : ∃ lp, lp = lpOf Try.prog cfg ic Try.f39.ntmps 39 (k + 3) ((([] : Hp)).map (·.1)) := ⟨_, rfl⟩
    rw [← hlp]
    conv => lhs; whnf
    refine iteK_dec (fun h1 => ?_) (fun h1 => ?_)
    · rw [dec_t h1]
      (exfalso; omega)
    · rw [dec_f h1]
      conv => lhs; whnf
      refine iteK_beq (fun h2 => ?_) (fun h2 => ?_)
      · rw [beq_t h2]
        (exfalso; omega)
      · rw [beq_f h2]
        conv => lhs; whnf
        refine nextK_of (aop_ix rfl rfl rfl rfl (ixL_at' (n := 0) rfl (bL_get hB0) rfl)) ?_
        conv => lhs; whnf
        refine iteK_beq (fun h3 => ?_) (fun h3 => ?_)
        · rw [beq_t h3]
          (exfalso; omega)
        · rw [beq_f h3]
          conv => lhs; whnf
          refine iteK_beq (fun h4 => ?_) (fun h4 => ?_)
          · rw [beq_t h4]
            (exfalso; omega)
          · rw [beq_f h4]
            conv => lhs; whnf
            refine nextK_of hkk ?_
            conv => lhs; whnf
            refine (loop_goE hlp ?_)
            conv => lhs; whnf
            refine nextK_of (holdO_of (a := St.mk [((0 : Nat), AV.d (D.list (bL B))), ((1 : Nat), AV.d (D.int IntKind.i64 z)), ((4 : Nat), AV.ptr (Nm.slot (4 : Nat)) (0 : Nat)), ((14 : Nat), AV.d (D.int IntKind.i64 (2 : Int))), ((15 : Nat), AV.ptr (Nm.slot (15 : Nat)) (0 : Nat)), ((16 : Nat), AV.d (D.int IntKind.i64 (1 : Int))), ((17 : Nat), AV.d (D.int IntKind.i64 (0 : Int)))] [(Nm.slot (4 : Nat), AObj.cells [AV.d (D.int IntKind.i64 (0 : Int)), AV.d (D.int IntKind.i64 (0 : Int)), AV.d (D.str []), AV.nilsl]), (Nm.slot (15 : Nat), AObj.cells [AV.d (D.int IntKind.i64 (IntKind.wrap IntKind.i64 ↑c.toBitVec.toFin.1)), AV.d (D.int IntKind.i64 (0 : Int)), AV.d (D.str []), AV.nilsl])]) (by kernel_rfl)) ?_
            conv => lhs; whnf
            refine nextK_of (aop_from (a := 1) (y := r) rfl rfl rfl rfl rfl (by omega) hB1) ?_
            conv => lhs; whnf
            refine nextK_of ih ?_
            conv => lhs; whnf
            refine nextK_of (holdO_of (a := St.mk [((0 : Nat), AV.d (D.list (bL B))), ((1 : Nat), AV.d (D.int IntKind.i64 z)), ((4 : Nat), AV.ptr (Nm.slot (4 : Nat)) (0 : Nat)), ((14 : Nat), AV.d (D.int IntKind.i64 (2 : Int))), ((15 : Nat), AV.ptr (Nm.slot (15 : Nat)) (0 : Nat)), ((16 : Nat), AV.d (D.int IntKind.i64 (IntKind.wrap IntKind.i64 ((1 : Int) + ↑q1)))), ((17 : Nat), AV.d (D.int IntKind.i64 (1 : Int)))] [(Nm.slot (4 : Nat), AObj.cells [AV.d (D.int IntKind.i64 (0 : Int)), AV.d (D.int IntKind.i64 (0 : Int)), AV.d (D.str []), AV.nilsl]), (Nm.slot (15 : Nat), AObj.cells [AV.d (D.int IntKind.i64 (IntKind.wrap IntKind.i64 ↑c.toBitVec.toFin.1)), AV.d (D.int IntKind.i64 (0 : Int)), AV.d (D.str []), AV.own (Nm.slot (93 : Nat)) (nat_lit 0) (List.length [[D.int IntKind.i64 (T.kind (T.mk tk tn ts tl)), D.int IntKind.i64 (T.n (T.mk tk tn ts tl)), D.str (T.name (T.mk tk tn ts tl)), D.list (cellsL (T.kids (T.mk tk tn ts tl)))]])]), (Nm.slot (93 : Nat), AObj.arr (31 : Nat) (4 : Nat) (nat_lit 0) [[D.int IntKind.i64 (T.kind (T.mk tk tn ts tl)), D.int IntKind.i64 (T.n (T.mk tk tn ts tl)), D.str (T.name (T.mk tk tn ts tl)), D.list (cellsL (T.kids (T.mk tk tn ts tl)))]])]) (by kernel_rfl)) ?_
            conv => lhs; whnf
            refine nextK_of (aop_from (z := B) (a := 1 + q1) (y := r.drop q1) rfl rfl rfl rfl hq1 (by omega) hB2) ?_
            conv => lhs; whnf
            refine nextK_of ih2 ?_
            conv => lhs; whnf
            refine iteK_bne_t g2 ?_
            conv => lhs; whnf
            refine nextK_of (holdO_of (a := (Fx.ret, St.mk [((4 : Nat), AV.ptr (Nm.slot (4 : Nat)) (0 : Nat)), ((5 : Nat), AV.d (D.int IntKind.i64 (0 : Int))), ((6 : Nat), AV.d (D.int IntKind.i64 e2)), ((15 : Nat), AV.ptr (Nm.slot (15 : Nat)) (0 : Nat)), ((16 : Nat), AV.d (D.int IntKind.i64 (IntKind.wrap IntKind.i64 ((1 : Int) + ↑q1))))] [(Nm.slot (4 : Nat), AObj.cells [AV.d (D.int IntKind.i64 (0 : Int)), AV.d (D.int IntKind.i64 (0 : Int)), AV.d (D.str []), AV.nilsl]), (Nm.slot (15 : Nat), AObj.cells [AV.d (D.int IntKind.i64 (IntKind.wrap IntKind.i64 ↑c.toBitVec.toFin.1)), AV.d (D.int IntKind.i64 (0 : Int)), AV.d (D.str []), AV.own (Nm.slot (93 : Nat)) (nat_lit 0) (List.length [[D.int IntKind.i64 (T.kind (T.mk tk tn ts tl)), D.int IntKind.i64 (T.n (T.mk tk tn ts tl)), D.str (T.name (T.mk tk tn ts tl)), D.list (cellsL (T.kids (T.mk tk tn ts tl)))]])]), (Nm.slot (93 : Nat), AObj.arr (31 : Nat) (4 : Nat) (nat_lit 0) [[D.int IntKind.i64 (T.kind (T.mk tk tn ts tl)), D.int IntKind.i64 (T.n (T.mk tk tn ts tl)), D.str (T.name (T.mk tk tn ts tl)), D.list (cellsL (T.kids (T.mk tk tn ts tl)))]])])) (by kernel_rfl)) ?_
            conv => lhs; whnf
            refine Eq.trans (b := some (Res.ret (AV.tuple [AV.agg [AV.d (D.int IntKind.i64 (0 : Int)), AV.d (D.int IntKind.i64 (0 : Int)), AV.d (D.str []), AV.d (D.list [])], AV.d (D.int IntKind.i64 (0 : Int)), AV.d (D.int IntKind.i64 e2)]), [])) (by kernel_rfl) ?_
            rfl
theorem read39_2 (k : Nat) (c : UInt8) (r : List UInt8) (z : Int) (hz : 1 ≤ z ∧ z ≤ 16) (hb : r.length + 1 ≤ maxLen) (t1 t2 : T) (q1 q2 : Nat) (hq : q1 ≤ r.length) (hq' : q2 ≤ (r.drop q1).length) (ih : icall Try.prog cfg (k + 3) 39 [.d (.list (bL r)), .d (.int .i64 (IntKind.i64.wrap (z + 1)))] [] = some (.ret (.tuple [t1.av, .d (.int .i64 q1), .d (.int .i64 0)]), [])) (ih2 : icall Try.prog cfg (k + 3) 39 [.d (.list (bL (r.drop q1))), .d (.int .i64 (IntKind.i64.wrap (z + 1)))] [] = some (.ret (.tuple [t2.av, .d (.int .i64 q2), .d (.int .i64 0)]), [])) (h : 7 ≤ (c.toNat : Int) ∧ (c.toNat : Int) ≤ 14) :
    icall Try.prog cfg (k + 3 + 1) 39 [.d (.list (bL (c :: r))), .d (.int .i64 z)] [] = some (.ret (.tuple [(T.mk c.toNat 0 [] [t1, t2]).av, .d (.int .i64 (1 + q1 + q2 : Nat)), .d (.int .i64 0)]), []) := by
  obtain ⟨tk, tn, ts, tl⟩ := t1
  obtain ⟨uk, un, us, ul⟩ := t2
  rw [List.length_drop] at hq'
  obtain ⟨kx, hkx⟩ : ∃ kx, icall Try.prog cfg (k + 3) 77 [.d (.int .i64 (IntKind.i64.wrap c.toNat))] [] = some (.ret (.d (.int .i64 2)), []) ∧ kx = 0 := ⟨0, by rw [wci c]; exact (kids77 _ _ (by omega)).trans (by rw [kidsK_2 h]), rfl⟩
  have hkk := hkx.1
  have hw := wci c
  obtain ⟨B, hB⟩ : ∃ B, B = c :: r := ⟨_, rfl⟩
  have hB0 : B[0]? = some c := by rw [hB]; rfl
  have hB1 : B.drop 1 = r := by rw [hB]; rfl
  have hBl : B.length = r.length + 1 := by rw [hB]; rfl
  have hBb := bL_len B
  have hmx : (maxLen : Int) ≤ 9223372036854775807 := by decide
  rw [← hB]
  have hq1 := wup q1 (by omega)
  have hq2 := wup2 q1 q2 (by omega)
  have hB2 : B.drop (1 + q1) = r.drop q1 := by rw [hB, Nat.add_comm 1, List.drop_succ_cons]
  rw [icall_body rfl Try.func39]
  generalize icall Try.prog cfg (k + 3) = ic at *
  as_aux_lemma =>
    obtain ⟨lp, hlp⟩ : ∃ lp, lp = lpOf Try.prog cfg ic Try.f39.ntmps 39 (k + 3) ((([] : Hp)).map (·.1)) := ⟨_, rfl⟩
    rw [← hlp]
    conv => lhs; whnf
    refine iteK_dec (fun h1 => ?_) (fun h1 => ?_)
    · rw [dec_t h1]
      (exfalso; omega)
    · rw [dec_f h1]
      conv => lhs; whnf
      refine iteK_beq (fun h2 => ?_) (fun h2 => ?_)
      · rw [beq_t h2]
        (exfalso; omega)
      · rw [beq_f h2]
        conv => lhs; whnf
        refine nextK_of (aop_ix rfl rfl rfl rfl (ixL_at' (n := 0) rfl (bL_get hB0) rfl)) ?_
        conv => lhs; whnf
        refine iteK_beq (fun h3 => ?_) (fun h3 => ?_)
        · rw [beq_t h3]
          (exfalso; omega)
        · rw [beq_f h3]
          conv => lhs; whnf
          refine iteK_beq (fun h4 => ?_) (fun h4 => ?_)
          · rw [beq_t h4]
            (exfalso; omega)
          · rw [beq_f h4]
            conv => lhs; whnf
            refine nextK_of hkk ?_
            conv => lhs; whnf
            refine (loop_goE hlp ?_)
            conv => lhs; whnf
            refine nextK_of (holdO_of (a := St.mk [((0 : Nat), AV.d (D.list (bL B))), ((1 : Nat), AV.d (D.int IntKind.i64 z)), ((4 : Nat), AV.ptr (Nm.slot (4 : Nat)) (0 : Nat)), ((14 : Nat), AV.d (D.int IntKind.i64 (2 : Int))), ((15 : Nat), AV.ptr (Nm.slot (15 : Nat)) (0 : Nat)), ((16 : Nat), AV.d (D.int IntKind.i64 (1 : Int))), ((17 : Nat), AV.d (D.int IntKind.i64 (0 : Int)))] [(Nm.slot (4 : Nat), AObj.cells [AV.d (D.int IntKind.i64 (0 : Int)), AV.d (D.int IntKind.i64 (0 : Int)), AV.d (D.str []), AV.nilsl]), (Nm.slot (15 : Nat), AObj.cells [AV.d (D.int IntKind.i64 (IntKind.wrap IntKind.i64 ↑c.toBitVec.toFin.1)), AV.d (D.int IntKind.i64 (0 : Int)), AV.d (D.str []), AV.nilsl])]) (by kernel_rfl)) ?_
            conv => lhs; whnf
            refine nextK_of (aop_from (a := 1) (y := r) rfl rfl rfl rfl rfl (by omega) hB1) ?_
            conv => lhs; whnf
            refine nextK_of ih ?_
            conv => lhs; whnf
            refine nextK_of (holdO_of (a := St.mk [((0 : Nat), AV.d (D.list (bL B))), ((1 : Nat), AV.d (D.int IntKind.i64 z)), ((4 : Nat), AV.ptr (Nm.slot (4 : Nat)) (0 : Nat)), ((14 : Nat), AV.d (D.int IntKind.i64 (2 : Int))), ((15 : Nat), AV.ptr (Nm.slot (15 : Nat)) (0 : Nat)), ((16 : Nat), AV.d (D.int IntKind.i64 (IntKind.wrap IntKind.i64 ((1 : Int) + ↑q1)))), ((17 : Nat), AV.d (D.int IntKind.i64 (1 : Int)))] [(Nm.slot (4 : Nat), AObj.cells [AV.d (D.int IntKind.i64 (0 : Int)), AV.d (D.int IntKind.i64 (0 : Int)), AV.d (D.str []), AV.nilsl]), (Nm.slot (15 : Nat), AObj.cells [AV.d (D.int IntKind.i64 (IntKind.wrap IntKind.i64 ↑c.toBitVec.toFin.1)), AV.d (D.int IntKind.i64 (0 : Int)), AV.d (D.str []), AV.own (Nm.slot (93 : Nat)) (nat_lit 0) (List.length [[D.int IntKind.i64 (T.kind (T.mk tk tn ts tl)), D.int IntKind.i64 (T.n (T.mk tk tn ts tl)), D.str (T.name (T.mk tk tn ts tl)), D.list (cellsL (T.kids (T.mk tk tn ts tl)))]])]), (Nm.slot (93 : Nat), AObj.arr (31 : Nat) (4 : Nat) (nat_lit 0) [[D.int IntKind.i64 (T.kind (T.mk tk tn ts tl)), D.int IntKind.i64 (T.n (T.mk tk tn ts tl)), D.str (T.name (T.mk tk tn ts tl)), D.list (cellsL (T.kids (T.mk tk tn ts tl)))]])]) (by kernel_rfl)) ?_
            conv => lhs; whnf
            refine nextK_of (aop_from (z := B) (a := 1 + q1) (y := r.drop q1) rfl rfl rfl rfl hq1 (by omega) hB2) ?_
            conv => lhs; whnf
            refine nextK_of ih2 ?_
            conv => lhs; whnf
            refine nextK_of (holdO_of (a := St.mk [((0 : Nat), AV.d (D.list (bL B))), ((1 : Nat), AV.d (D.int IntKind.i64 z)), ((4 : Nat), AV.ptr (Nm.slot (4 : Nat)) (0 : Nat)), ((14 : Nat), AV.d (D.int IntKind.i64 (2 : Int))), ((15 : Nat), AV.ptr (Nm.slot (15 : Nat)) (0 : Nat)), ((16 : Nat), AV.d (D.int IntKind.i64 (IntKind.wrap IntKind.i64 (IntKind.wrap IntKind.i64 ((1 : Int) + ↑q1) + ↑q2)))), ((17 : Nat), AV.d (D.int IntKind.i64 (2 : Int)))] [(Nm.slot (4 : Nat), AObj.cells [AV.d (D.int IntKind.i64 (0 : Int)), AV.d (D.int IntKind.i64 (0 : Int)), AV.d (D.str []), AV.nilsl]), (Nm.slot (15 : Nat), AObj.cells [AV.d (D.int IntKind.i64 (IntKind.wrap IntKind.i64 ↑c.toBitVec.toFin.1)), AV.d (D.int IntKind.i64 (0 : Int)), AV.d (D.str []), AV.own (Nm.slot (93 : Nat)) (nat_lit 0) (List.length [[D.int IntKind.i64 (T.kind (T.mk tk tn ts tl)), D.int IntKind.i64 (T.n (T.mk tk tn ts tl)), D.str (T.name (T.mk tk tn ts tl)), D.list (cellsL (T.kids (T.mk tk tn ts tl)))]] + List.length [[D.int IntKind.i64 (T.kind (T.mk uk un us ul)), D.int IntKind.i64 (T.n (T.mk uk un us ul)), D.str (T.name (T.mk uk un us ul)), D.list (cellsL (T.kids (T.mk uk un us ul)))]])]), (Nm.slot (93 : Nat), AObj.arr (31 : Nat) (4 : Nat) (nat_lit 0) [[D.int IntKind.i64 (T.kind (T.mk tk tn ts tl)), D.int IntKind.i64 (T.n (T.mk tk tn ts tl)), D.str (T.name (T.mk tk tn ts tl)), D.list (cellsL (T.kids (T.mk tk tn ts tl)))], [D.int IntKind.i64 (T.kind (T.mk uk un us ul)), D.int IntKind.i64 (T.n (T.mk uk un us ul)), D.str (T.name (T.mk uk un us ul)), D.list (cellsL (T.kids (T.mk uk un us ul)))]])]) (by kernel_rfl)) ?_
            conv => lhs; whnf
            refine nextK_of (holdO_of (a := (Fx.exit (0 : Nat), St.mk [((4 : Nat), AV.ptr (Nm.slot (4 : Nat)) (0 : Nat)), ((5 : Nat), AV.undef), ((6 : Nat), AV.undef), ((15 : Nat), AV.ptr (Nm.slot (15 : Nat)) (0 : Nat)), ((16 : Nat), AV.d (D.int IntKind.i64 (IntKind.wrap IntKind.i64 (IntKind.wrap IntKind.i64 ((1 : Int) + ↑q1) + ↑q2))))] [(Nm.slot (4 : Nat), AObj.cells [AV.d (D.int IntKind.i64 (0 : Int)), AV.d (D.int IntKind.i64 (0 : Int)), AV.d (D.str []), AV.nilsl]), (Nm.slot (15 : Nat), AObj.cells [AV.d (D.int IntKind.i64 (IntKind.wrap IntKind.i64 ↑c.toBitVec.toFin.1)), AV.d (D.int IntKind.i64 (0 : Int)), AV.d (D.str []), AV.own (Nm.slot (93 : Nat)) (nat_lit 0) (List.length [[D.int IntKind.i64 (T.kind (T.mk tk tn ts tl)), D.int IntKind.i64 (T.n (T.mk tk tn ts tl)), D.str (T.name (T.mk tk tn ts tl)), D.list (cellsL (T.kids (T.mk tk tn ts tl)))]] + List.length [[D.int IntKind.i64 (T.kind (T.mk uk un us ul)), D.int IntKind.i64 (T.n (T.mk uk un us ul)), D.str (T.name (T.mk uk un us ul)), D.list (cellsL (T.kids (T.mk uk un us ul)))]])]), (Nm.slot (93 : Nat), AObj.arr (31 : Nat) (4 : Nat) (nat_lit 0) [[D.int IntKind.i64 (T.kind (T.mk tk tn ts tl)), D.int IntKind.i64 (T.n (T.mk tk tn ts tl)), D.str (T.name (T.mk tk tn ts tl)), D.list (cellsL (T.kids (T.mk tk tn ts tl)))], [D.int IntKind.i64 (T.kind (T.mk uk un us ul)), D.int IntKind.i64 (T.n (T.mk uk un us ul)), D.str (T.name (T.mk uk un us ul)), D.list (cellsL (T.kids (T.mk uk un us ul)))]])])) (by kernel_rfl)) ?_
            conv => lhs; whnf
            refine Eq.trans (b := some (Res.ret (AV.tuple [AV.agg [AV.d (D.int IntKind.i64 (IntKind.wrap IntKind.i64 ↑c.toBitVec.toFin.1)), AV.d (D.int IntKind.i64 (0 : Int)), AV.d (D.str []), AV.d (D.list [[D.int IntKind.i64 (T.kind (T.mk tk tn ts tl)), D.int IntKind.i64 (T.n (T.mk tk tn ts tl)), D.str (T.name (T.mk tk tn ts tl)), D.list (cellsL (T.kids (T.mk tk tn ts tl)))], [D.int IntKind.i64 (T.kind (T.mk uk un us ul)), D.int IntKind.i64 (T.n (T.mk uk un us ul)), D.str (T.name (T.mk uk un us ul)), D.list (cellsL (T.kids (T.mk uk un us ul)))]])], AV.d (D.int IntKind.i64 (IntKind.wrap IntKind.i64 (IntKind.wrap IntKind.i64 ((1 : Int) + ↑q1) + ↑q2))), AV.d (D.int IntKind.i64 (0 : Int))]), [])) (by kernel_rfl) ?_
            (exact (congrArg (fun q => some (Res.ret (.tuple [.agg [.d (.int .i64 q), .d (.int .i64 0), .d (.str []), .d (.list [[.int .i64 tk, .int .i64 tn, .str ts, .list (cellsL tl)], [.int .i64 uk, .int .i64 un, .str us, .list (cellsL ul)]])], .d (.int .i64 (IntKind.i64.wrap (IntKind.i64.wrap (1 + (q1 : Int)) + (q2 : Int)))), .d (.int .i64 0)]), ([] : Hp))) hw).trans (congrArg (fun q => some (Res.ret (.tuple [.agg [.d (.int .i64 c.toNat), .d (.int .i64 0), .d (.str []), .d (.list [[.int .i64 tk, .int .i64 tn, .str ts, .list (cellsL tl)], [.int .i64 uk, .int .i64 un, .str us, .list (cellsL ul)]])], .d (.int .i64 q), .d (.int .i64 0)]), ([] : Hp))) hq2))
theorem read39 : ∀ (m : Nat), m ≤ 16 → ∀ k, m + 24 < k → R39 k m := by
  intro m
  induction m with
  | zero =>
    intro hm k hk b z hz hb
    rw [rdT_0]
    obtain ⟨k, rfl⟩ : ∃ j, k = j + 1 := ⟨k - 1, by omega⟩
    rw [icall_body rfl Try.func39]
    obtain ⟨lp, hlp⟩ : ∃ lp, lp = lpOf Try.prog cfg (icall Try.prog cfg k) Try.f39.ntmps 39 k (([] : Hp).map (·.1)) := ⟨_, rfl⟩
    rw [← hlp]
    conv => lhs; whnf
    refine iteK_dec (fun h1 => ?_) (fun h1 => ?_)
    · rw [dec_t h1]
      conv => lhs; whnf
      refine Eq.trans (b := some (Res.ret (AV.tuple [AV.agg [AV.d (D.int IntKind.i64 (0 : Int)), AV.d (D.int IntKind.i64 (0 : Int)), AV.d (D.str []), AV.d (D.list [])], AV.d (D.int IntKind.i64 (0 : Int)), AV.d (D.int IntKind.i64 (6 : Int))]), [])) (by kernel_rfl) ?_
      rfl
    · rw [dec_f h1]
      (exfalso; omega)
  | succ m ihm =>
    intro hm k hk b z hz hb
    match b, hb with
    | [], _ =>
      rw [rdT_nil]
      obtain ⟨k, rfl⟩ : ∃ j, k = j + 1 := ⟨k - 1, by omega⟩
      rw [icall_body rfl Try.func39]
      obtain ⟨lp, hlp⟩ : ∃ lp, lp = lpOf Try.prog cfg (icall Try.prog cfg k) Try.f39.ntmps 39 k (([] : Hp).map (·.1)) := ⟨_, rfl⟩
      rw [← hlp]
      conv => lhs; whnf
      refine iteK_dec (fun h1 => ?_) (fun h1 => ?_)
      · rw [dec_t h1]
        (exfalso; omega)
      · rw [dec_f h1]
        conv => lhs; whnf
        refine Eq.trans (b := some (Res.ret (AV.tuple [AV.agg [AV.d (D.int IntKind.i64 (0 : Int)), AV.d (D.int IntKind.i64 (0 : Int)), AV.d (D.str []), AV.d (D.list [])], AV.d (D.int IntKind.i64 (0 : Int)), AV.d (D.int IntKind.i64 (5 : Int))]), [])) (by kernel_rfl) ?_
        rfl
    | c :: r, hb =>
      rw [List.length_cons] at hb
      obtain ⟨k, rfl⟩ : ∃ j, k = j + 3 + 1 := ⟨k - 4, by omega⟩
      have ih := ihm (by omega) (k + 3) (by omega)
      have hz2 : IntKind.i64.wrap (z + 1) = 17 - (m : Int) := by rw [Go.Rx.wrap_i64 (by omega) (by omega)]; omega
      have ih1 := ih r _ hz2 (by omega)
      have hz3 : 1 ≤ z ∧ z ≤ 16 := by omega
      by_cases c1 : (c.toNat : Int) = 1
      · rw [rdT_1 c1]
        have hc := readI75 r (by omega) (k + 3) (by omega)
        have hi := rdI_b r
        exact read39_a k c r z hz3 hb _ _ (by by_cases h : (rdI r).2.2 = 0; (have := hi.1 h; omega); (have := hi.2 h; omega)) _ hc c1
      · by_cases c2 : (c.toNat : Int) = 2
        · rw [rdT_2 c2]
          have hc := readB76 r (by omega) (k + 3) (by omega)
          have hi := rdB_b r
          exact read39_b k c r z hz3 hb _ _ (by by_cases h : (rdB r).2.2 = 0; (have := hi.1 h; omega); (have := hi.2.1 h; omega)) _ hc c2
        · by_cases c3 : (c.toNat : Int) = 3 ∨ (c.toNat : Int) = 4
          · rw [rdT_k0 c3]
            exact read39_0 k c r z hz3 hb c3
          · by_cases c4 : 5 ≤ (c.toNat : Int) ∧ (c.toNat : Int) ≤ 14
            · by_cases e1 : (rdT m r).2.2 = 0
              · rw [e1] at ih1
                have b1 := rdT_b m r e1
                by_cases c5 : (c.toNat : Int) = 5 ∨ (c.toNat : Int) = 6
                · rw [rdT_k1 c5, if_neg (by omega)]
                  exact read39_1 k c r z hz3 hb _ _ b1.1 ih1 c5
                · have ih2 := ih (r.drop (rdT m r).2.1) _ hz2 (by rw [List.length_drop]; omega)
                  rw [rdT_k2 (by omega), if_neg (by omega)]
                  by_cases e2 : (rdT m (r.drop (rdT m r).2.1)).2.2 = 0
                  · rw [e2] at ih2
                    have b2 := rdT_b m _ e2
                    rw [if_neg (by omega)]
                    exact read39_2 k c r z hz3 hb _ _ _ _ b1.1 b2.1 ih1 ih2 (by omega)
                  · rw [if_pos e2]
                    exact read39_2e k c r z hz3 hb _ _ _ _ b1.1 _ e2 ih1 ih2 (by omega)
              · have e0 : rdT (m + 1) (c :: r) = (T0, 0, (rdT m r).2.2) := by
                  by_cases c5 : (c.toNat : Int) = 5 ∨ (c.toNat : Int) = 6
                  · rw [rdT_k1 c5, if_pos e1]
                  · rw [rdT_k2 (by omega), if_pos e1]
                rw [e0]
                by_cases c5 : (c.toNat : Int) = 5 ∨ (c.toNat : Int) = 6
                · exact read39_1e k c r z hz3 hb 1 (.inl rfl) (kidsK_1 c5) _ _ _ e1 ih1 (by omega)
                · exact read39_1e k c r z hz3 hb 2 (.inr rfl) (kidsK_2 (by omega)) _ _ _ e1 ih1 (by omega)
            · rw [rdT_n (by omega)]
              exact read39_n k c r z hz3 hb (by omega)
end Go.Rx11
