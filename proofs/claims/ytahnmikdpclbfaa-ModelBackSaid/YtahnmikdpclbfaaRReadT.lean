/- A part of the proof of the law: what functions of the program come to, walked by Rx, or plain facts on it. -/
import Derived.Test.YtahnmikdpclbfaaRJ1
import Derived.Test.YtahnmikdpclbfaaRSpecT
open Go Go.Rx Go.Proofs Go.Rx11 Go.RxTree
set_option maxRecDepth 1000000
set_option maxHeartbeats 4000000
set_option linter.unusedVariables false
set_option linter.unusedSimpArgs false
namespace Go.Rx11
theorem aop_from {P : Program} {dst : Nat} {ρ : Operand → AV} {H : Hp} {t e : TypeId} {x : Operand} {lo : Option Operand} {z y : List UInt8} {l : Int} {a : Nat} (hx : ρ x = .d (.list (bL z))) (ht : P.underlying t = some (.slice e)) (hs : sizeT P e = some 1)
    (hl : intV (lo.map ρ) = some (some l)) (ha : l = (a : Int)) (hle : a ≤ z.length) (hy : z.drop a = y) :
    aop P dst ρ H (.slice t x lo none none) = some (.d (.list (bL y)), H) := by
  rw [aop_sliceB hx ht hs hl rfl rfl (bnds_from ha hle), List.take_length, hy]
theorem wci (c : UInt8) : IntKind.i64.wrap (c.toNat : Int) = (c.toNat : Int) := Go.Rx.wrap_i64 (by omega) (by have := c.toNat_lt; omega)
/-- What model's reader of a tree comes to, so many depths left. -/
def R37 (k m : Nat) : Prop := ∀ (b : List UInt8) (z : Int), z = 17 - (m : Int) → b.length ≤ maxLen → icall Try.prog cfg k 37 [.d (.list (bL b)), .d (.int .i64 z)] [] = some (.ret (.tuple [(rdT m b).1.av, .d (.list (bL (rest b (rdT m b).2.1 (rdT m b).2.2))), .d (.int .i64 (rdT m b).2.2)]), [])
theorem read37_a (k : Nat) (c : UInt8) (r : List UInt8) (z : Int) (hz : 1 ≤ z ∧ z ≤ 16) (hb : r.length + 1 ≤ maxLen) (hk : 20 < k) (n1 : Int) (q1 : List UInt8) (e1 : Int) (ci : icall Try.prog cfg (k + 3) 72 [.d (.list (bL r))] [] = some (.ret (.tuple [.d (.int .i64 n1), .d (.list (bL q1)), .d (.int .i64 e1)]), [])) (h : (c.toNat : Int) = 1) :
    icall Try.prog cfg (k + 3 + 1) 37 [.d (.list (bL (c :: r))), .d (.int .i64 z)] [] = some (.ret (.tuple [(T.mk 1 n1 [] []).av, .d (.list (bL q1)), .d (.int .i64 e1)]), []) := by
  have hw := wci c
  obtain ⟨B, hB⟩ : ∃ B, B = c :: r := ⟨_, rfl⟩
  have hB0 : B[0]? = some c := by rw [hB]; rfl
  have hB1 : B.drop 1 = r := by rw [hB]; rfl
  have hBl : B.length = r.length + 1 := by rw [hB]; rfl
  have hBb := bL_len B
  rw [← hB]
  rw [icall_body rfl Try.func37]
  generalize icall Try.prog cfg (k + 3) = ic at *
  as_aux_lemma =>
    obtain ⟨lp, hlp⟩ : ∃ lp, lp = lpOf Try.prog cfg ic Try.f37.ntmps 37 (k + 3) ((([] : Hp)).map (·.1)) := ⟨_, rfl⟩
    rw [← hlp]
    conv => lhs; whnf
    refine iteK_dec (fun h1 => ?_) (fun h1 => ?_)
    · rw [dec_t h1]
      (exfalso; omega)
    · rw [dec_f h1]
      conv => lhs; whnf
      refine iteK_beq (fun h2 => ?_) (fun h2 => ?_)
      · rw [beq_t h2]
        (exfalso; omega)
      · rw [beq_f h2]
        conv => lhs; whnf
        refine nextK_of (aop_ix rfl rfl rfl rfl (ixL_at' (n := 0) rfl (bL_get hB0) rfl)) ?_
        conv => lhs; whnf
        refine nextK_of (aop_from (a := 1) (y := r) rfl rfl rfl rfl rfl (by omega) hB1) ?_
        conv => lhs; whnf
        refine iteK_beq (fun h3 => ?_) (fun h3 => ?_)
        · rw [beq_t h3]
          conv => lhs; whnf
          refine nextK_of ci ?_
          conv => lhs; whnf
          refine Eq.trans (b := some (Res.ret (AV.tuple [AV.agg [AV.d (D.int IntKind.i64 (IntKind.wrap IntKind.i64 ↑c.toBitVec.toFin.1)), AV.d (D.int IntKind.i64 n1), AV.d (D.str []), AV.d (D.list [])], AV.d (D.list (bL q1)), AV.d (D.int IntKind.i64 e1)]), [])) (by kernel_rfl) ?_
          (exact congrArg (fun q => some (Res.ret (.tuple [.agg [.d (.int .i64 q), .d (.int .i64 n1), .d (.str []), .d (.list [])], .d (.list (bL q1)), .d (.int .i64 e1)]), ([] : Hp))) (hw.trans h))
        · rw [beq_f h3]
          (exfalso; omega)
theorem read37_b (k : Nat) (c : UInt8) (r : List UInt8) (z : Int) (hz : 1 ≤ z ∧ z ≤ 16) (hb : r.length + 1 ≤ maxLen) (hk : 20 < k) (s1 : List UInt8) (q1 : List UInt8) (e1 : Int) (ci : icall Try.prog cfg (k + 3) 73 [.d (.list (bL r))] [] = some (.ret (.tuple [.d (.list (bL s1)), .d (.list (bL q1)), .d (.int .i64 e1)]), [])) (h : (c.toNat : Int) = 2) :
    icall Try.prog cfg (k + 3 + 1) 37 [.d (.list (bL (c :: r))), .d (.int .i64 z)] [] = some (.ret (.tuple [(T.mk 2 0 s1 []).av, .d (.list (bL q1)), .d (.int .i64 e1)]), []) := by
  have hw := wci c
  obtain ⟨B, hB⟩ : ∃ B, B = c :: r := ⟨_, rfl⟩
  have hB0 : B[0]? = some c := by rw [hB]; rfl
  have hB1 : B.drop 1 = r := by rw [hB]; rfl
  have hBl : B.length = r.length + 1 := by rw [hB]; rfl
  have hBb := bL_len B
  rw [← hB]
  rw [icall_body rfl Try.func37]
  generalize icall Try.prog cfg (k + 3) = ic at *
  as_aux_lemma =>
    obtain ⟨lp, hlp⟩ : ∃ lp, lp = lpOf Try.prog cfg ic Try.f37.ntmps 37 (k + 3) ((([] : Hp)).map (·.1)) := ⟨_, rfl⟩
    rw [← hlp]
    conv => lhs; whnf
    refine iteK_dec (fun h1 => ?_) (fun h1 => ?_)
    · rw [dec_t h1]
      (exfalso; omega)
    · rw [dec_f h1]
      conv => lhs; whnf
      refine iteK_beq (fun h2 => ?_) (fun h2 => ?_)
      · rw [beq_t h2]
        (exfalso; omega)
      · rw [beq_f h2]
        conv => lhs; whnf
        refine nextK_of (aop_ix rfl rfl rfl rfl (ixL_at' (n := 0) rfl (bL_get hB0) rfl)) ?_
        conv => lhs; whnf
        refine nextK_of (aop_from (a := 1) (y := r) rfl rfl rfl rfl rfl (by omega) hB1) ?_
        conv => lhs; whnf
        refine iteK_beq (fun h3 => ?_) (fun h3 => ?_)
        · rw [beq_t h3]
          (exfalso; omega)
        · rw [beq_f h3]
          conv => lhs; whnf
          refine iteK_beq (fun h4 => ?_) (fun h4 => ?_)
          · rw [beq_t h4]
            conv => lhs; whnf
            refine nextK_of ci ?_
            conv => lhs; whnf
            refine nextK_of (aop_text rfl rfl rfl rfl) ?_
            conv => lhs; whnf
            refine Eq.trans (b := some (Res.ret (AV.tuple [AV.agg [AV.d (D.int IntKind.i64 (IntKind.wrap IntKind.i64 ↑c.toBitVec.toFin.1)), AV.d (D.int IntKind.i64 (0 : Int)), AV.d (D.str s1), AV.d (D.list [])], AV.d (D.list (bL q1)), AV.d (D.int IntKind.i64 e1)]), [])) (by kernel_rfl) ?_
            (exact congrArg (fun q => some (Res.ret (.tuple [.agg [.d (.int .i64 q), .d (.int .i64 0), .d (.str s1), .d (.list [])], .d (.list (bL q1)), .d (.int .i64 e1)]), ([] : Hp))) (hw.trans h))
          · rw [beq_f h4]
            (exfalso; omega)
theorem read37_0 (k : Nat) (c : UInt8) (r : List UInt8) (z : Int) (hz : 1 ≤ z ∧ z ≤ 16) (hb : r.length + 1 ≤ maxLen) (hk : 20 < k) (h : (c.toNat : Int) = 3 ∨ (c.toNat : Int) = 4) :
    icall Try.prog cfg (k + 3 + 1) 37 [.d (.list (bL (c :: r))), .d (.int .i64 z)] [] = some (.ret (.tuple [(T.mk c.toNat 0 [] []).av, .d (.list (bL r)), .d (.int .i64 0)]), []) := by
  have hw := wci c
  obtain ⟨B, hB⟩ : ∃ B, B = c :: r := ⟨_, rfl⟩
  have hB0 : B[0]? = some c := by rw [hB]; rfl
  have hB1 : B.drop 1 = r := by rw [hB]; rfl
  have hBl : B.length = r.length + 1 := by rw [hB]; rfl
  have hBb := bL_len B
  rw [← hB]
  rw [icall_body rfl Try.func37]
  generalize icall Try.prog cfg (k + 3) = ic at *
  as_aux_lemma =>
    obtain ⟨lp, hlp⟩ : ∃ lp, lp = lpOf Try.prog cfg ic Try.f37.ntmps 37 (k + 3) ((([] : Hp)).map (·.1)) := ⟨_, rfl⟩
    rw [← hlp]
    conv => lhs; whnf
    refine iteK_dec (fun h1 => ?_) (fun h1 => ?_)
    · rw [dec_t h1]
      (exfalso; omega)
    · rw [dec_f h1]
      conv => lhs; whnf
      refine iteK_beq (fun h2 => ?_) (fun h2 => ?_)
      · rw [beq_t h2]
        (exfalso; omega)
      · rw [beq_f h2]
        conv => lhs; whnf
        refine nextK_of (aop_ix rfl rfl rfl rfl (ixL_at' (n := 0) rfl (bL_get hB0) rfl)) ?_
        conv => lhs; whnf
        refine nextK_of (aop_from (a := 1) (y := r) rfl rfl rfl rfl rfl (by omega) hB1) ?_
        conv => lhs; whnf
        refine iteK_beq (fun h3 => ?_) (fun h3 => ?_)
        · rw [beq_t h3]
          (exfalso; omega)
        · rw [beq_f h3]
          conv => lhs; whnf
          refine iteK_beq (fun h4 => ?_) (fun h4 => ?_)
          · rw [beq_t h4]
            (exfalso; omega)
          · rw [beq_f h4]
            conv => lhs; whnf
            refine iteK_beq (fun h5 => ?_) (fun h5 => ?_)
            · rw [beq_t h5]
              conv => lhs; whnf
              refine (loop_goE hlp ?_)
              conv => lhs; whnf
              refine nextK_of (holdO_of (a := St.mk [((0 : Nat), AV.d (D.list (bL r))), ((1 : Nat), AV.d (D.int IntKind.i64 z)), ((4 : Nat), AV.ptr (Nm.slot (4 : Nat)) (0 : Nat)), ((7 : Nat), AV.ptr (Nm.slot (7 : Nat)) (0 : Nat)), ((76 : Nat), AV.d (D.int IntKind.i64 (0 : Int))), ((77 : Nat), AV.d (D.int IntKind.i64 (0 : Int)))] [(Nm.slot (4 : Nat), AObj.cells [AV.d (D.int IntKind.i64 (0 : Int)), AV.d (D.int IntKind.i64 (0 : Int)), AV.d (D.str []), AV.nilsl]), (Nm.slot (7 : Nat), AObj.cells [AV.d (D.int IntKind.i64 (IntKind.wrap IntKind.i64 ↑c.toBitVec.toFin.1)), AV.d (D.int IntKind.i64 (0 : Int)), AV.d (D.str []), AV.nilsl])]) (by kernel_rfl)) ?_
              conv => lhs; whnf
              refine nextK_of (holdO_of (a := (Fx.exit (1 : Nat), St.mk [((0 : Nat), AV.d (D.list (bL r))), ((4 : Nat), AV.ptr (Nm.slot (4 : Nat)) (0 : Nat)), ((5 : Nat), AV.undef), ((6 : Nat), AV.undef), ((7 : Nat), AV.ptr (Nm.slot (7 : Nat)) (0 : Nat))] [(Nm.slot (4 : Nat), AObj.cells [AV.d (D.int IntKind.i64 (0 : Int)), AV.d (D.int IntKind.i64 (0 : Int)), AV.d (D.str []), AV.nilsl]), (Nm.slot (7 : Nat), AObj.cells [AV.d (D.int IntKind.i64 (IntKind.wrap IntKind.i64 ↑c.toBitVec.toFin.1)), AV.d (D.int IntKind.i64 (0 : Int)), AV.d (D.str []), AV.nilsl])])) (by kernel_rfl)) ?_
              conv => lhs; whnf
              refine Eq.trans (b := some (Res.ret (AV.tuple [AV.agg [AV.d (D.int IntKind.i64 (IntKind.wrap IntKind.i64 ↑c.toBitVec.toFin.1)), AV.d (D.int IntKind.i64 (0 : Int)), AV.d (D.str []), AV.d (D.list [])], AV.d (D.list (bL r)), AV.d (D.int IntKind.i64 (0 : Int))]), [])) (by kernel_rfl) ?_
              (exact congrArg (fun q => some (Res.ret (.tuple [.agg [.d (.int .i64 q), .d (.int .i64 0), .d (.str []), .d (.list [])], .d (.list (bL r)), .d (.int .i64 0)]), ([] : Hp))) hw)
            · rw [beq_f h5]
              conv => lhs; whnf
              refine iteK_beq (fun h6 => ?_) (fun h6 => ?_)
              · rw [beq_t h6]
                conv => lhs; whnf
                refine (loop_goE hlp ?_)
                conv => lhs; whnf
                refine nextK_of (holdO_of (a := St.mk [((0 : Nat), AV.d (D.list (bL r))), ((1 : Nat), AV.d (D.int IntKind.i64 z)), ((4 : Nat), AV.ptr (Nm.slot (4 : Nat)) (0 : Nat)), ((7 : Nat), AV.ptr (Nm.slot (7 : Nat)) (0 : Nat)), ((76 : Nat), AV.d (D.int IntKind.i64 (0 : Int))), ((77 : Nat), AV.d (D.int IntKind.i64 (0 : Int)))] [(Nm.slot (4 : Nat), AObj.cells [AV.d (D.int IntKind.i64 (0 : Int)), AV.d (D.int IntKind.i64 (0 : Int)), AV.d (D.str []), AV.nilsl]), (Nm.slot (7 : Nat), AObj.cells [AV.d (D.int IntKind.i64 (IntKind.wrap IntKind.i64 ↑c.toBitVec.toFin.1)), AV.d (D.int IntKind.i64 (0 : Int)), AV.d (D.str []), AV.nilsl])]) (by kernel_rfl)) ?_
                conv => lhs; whnf
                refine nextK_of (holdO_of (a := (Fx.exit (1 : Nat), St.mk [((0 : Nat), AV.d (D.list (bL r))), ((4 : Nat), AV.ptr (Nm.slot (4 : Nat)) (0 : Nat)), ((5 : Nat), AV.undef), ((6 : Nat), AV.undef), ((7 : Nat), AV.ptr (Nm.slot (7 : Nat)) (0 : Nat))] [(Nm.slot (4 : Nat), AObj.cells [AV.d (D.int IntKind.i64 (0 : Int)), AV.d (D.int IntKind.i64 (0 : Int)), AV.d (D.str []), AV.nilsl]), (Nm.slot (7 : Nat), AObj.cells [AV.d (D.int IntKind.i64 (IntKind.wrap IntKind.i64 ↑c.toBitVec.toFin.1)), AV.d (D.int IntKind.i64 (0 : Int)), AV.d (D.str []), AV.nilsl])])) (by kernel_rfl)) ?_
                conv => lhs; whnf
                refine Eq.trans (b := some (Res.ret (AV.tuple [AV.agg [AV.d (D.int IntKind.i64 (IntKind.wrap IntKind.i64 ↑c.toBitVec.toFin.1)), AV.d (D.int IntKind.i64 (0 : Int)), AV.d (D.str []), AV.d (D.list [])], AV.d (D.list (bL r)), AV.d (D.int IntKind.i64 (0 : Int))]), [])) (by kernel_rfl) ?_
                (exact congrArg (fun q => some (Res.ret (.tuple [.agg [.d (.int .i64 q), .d (.int .i64 0), .d (.str []), .d (.list [])], .d (.list (bL r)), .d (.int .i64 0)]), ([] : Hp))) hw)
              · rw [beq_f h6]
                (exfalso; omega)
theorem read37_n (k : Nat) (c : UInt8) (r : List UInt8) (z : Int) (hz : 1 ≤ z ∧ z ≤ 16) (hb : r.length + 1 ≤ maxLen) (hk : 20 < k) (h : (c.toNat : Int) < 1 ∨ 14 < (c.toNat : Int)) :
    icall Try.prog cfg (k + 3 + 1) 37 [.d (.list (bL (c :: r))), .d (.int .i64 z)] [] = some (.ret (.tuple [(T.mk 0 0 [] []).av, .d (.list (bL [])), .d (.int .i64 3)]), []) := by
  have hw := wci c
  obtain ⟨B, hB⟩ : ∃ B, B = c :: r := ⟨_, rfl⟩
  have hB0 : B[0]? = some c := by rw [hB]; rfl
  have hB1 : B.drop 1 = r := by rw [hB]; rfl
  have hBl : B.length = r.length + 1 := by rw [hB]; rfl
  have hBb := bL_len B
  rw [← hB]
  rw [icall_body rfl Try.func37]
  generalize icall Try.prog cfg (k + 3) = ic at *
  as_aux_lemma =>
    obtain ⟨lp, hlp⟩ : ∃ lp, lp = lpOf Try.prog cfg ic Try.f37.ntmps 37 (k + 3) ((([] : Hp)).map (·.1)) := ⟨_, rfl⟩
    rw [← hlp]
    conv => lhs; whnf
    refine iteK_dec (fun h1 => ?_) (fun h1 => ?_)
    · rw [dec_t h1]
      (exfalso; omega)
    · rw [dec_f h1]
      conv => lhs; whnf
      refine iteK_beq (fun h2 => ?_) (fun h2 => ?_)
      · rw [beq_t h2]
        (exfalso; omega)
      · rw [beq_f h2]
        conv => lhs; whnf
        refine nextK_of (aop_ix rfl rfl rfl rfl (ixL_at' (n := 0) rfl (bL_get hB0) rfl)) ?_
        conv => lhs; whnf
        refine nextK_of (aop_from (a := 1) (y := r) rfl rfl rfl rfl rfl (by omega) hB1) ?_
        conv => lhs; whnf
        refine iteK_beq (fun h3 => ?_) (fun h3 => ?_)
        · rw [beq_t h3]
          (exfalso; omega)
        · rw [beq_f h3]
          conv => lhs; whnf
          refine iteK_beq (fun h4 => ?_) (fun h4 => ?_)
          · rw [beq_t h4]
            (exfalso; omega)
          · rw [beq_f h4]
            conv => lhs; whnf
            refine iteK_beq (fun h5 => ?_) (fun h5 => ?_)
            · rw [beq_t h5]
              (exfalso; omega)
            · rw [beq_f h5]
              conv => lhs; whnf
              refine iteK_beq (fun h6 => ?_) (fun h6 => ?_)
              · rw [beq_t h6]
                (exfalso; omega)
              · rw [beq_f h6]
                conv => lhs; whnf
                refine iteK_beq (fun h7 => ?_) (fun h7 => ?_)
                · rw [beq_t h7]
                  (exfalso; omega)
                · rw [beq_f h7]
                  conv => lhs; whnf
                  refine iteK_beq (fun h8 => ?_) (fun h8 => ?_)
                  · rw [beq_t h8]
                    (exfalso; omega)
                  · rw [beq_f h8]
                    conv => lhs; whnf
                    refine iteK_dec (fun h9 => ?_) (fun h9 => ?_)
                    · rw [dec_t h9]
                      conv => lhs; whnf
                      refine Eq.trans (b := some (Res.ret (AV.tuple [AV.agg [AV.d (D.int IntKind.i64 (0 : Int)), AV.d (D.int IntKind.i64 (0 : Int)), AV.d (D.str []), AV.d (D.list [])], AV.d (D.list []), AV.d (D.int IntKind.i64 (3 : Int))]), [])) (by kernel_rfl) ?_
                      rfl
                    · rw [dec_f h9]
                      conv => lhs; whnf
                      refine iteK_dec (fun h10 => ?_) (fun h10 => ?_)
                      · rw [dec_t h10]
                        conv => lhs; whnf
                        refine Eq.trans (b := some (Res.ret (AV.tuple [AV.agg [AV.d (D.int IntKind.i64 (0 : Int)), AV.d (D.int IntKind.i64 (0 : Int)), AV.d (D.str []), AV.d (D.list [])], AV.d (D.list []), AV.d (D.int IntKind.i64 (3 : Int))]), [])) (by kernel_rfl) ?_
                        rfl
                      · rw [dec_f h10]
                        (exfalso; omega)
theorem read37_1e (k : Nat) (c : UInt8) (r : List UInt8) (z : Int) (hz : 1 ≤ z ∧ z ≤ 16) (hb : r.length + 1 ≤ maxLen) (hk : 20 < k) (t1 : T) (q1 : List UInt8) (e1 : Int) (g1 : e1 ≠ 0) (ih : icall Try.prog cfg (k + 3) 37 [.d (.list (bL r)), .d (.int .i64 (IntKind.i64.wrap (z + 1)))] [] = some (.ret (.tuple [t1.av, .d (.list (bL q1)), .d (.int .i64 e1)]), [])) (h : 5 ≤ (c.toNat : Int) ∧ (c.toNat : Int) ≤ 14) :
    icall Try.prog cfg (k + 3 + 1) 37 [.d (.list (bL (c :: r))), .d (.int .i64 z)] [] = some (.ret (.tuple [(T.mk 0 0 [] []).av, .d (.list (bL [])), .d (.int .i64 e1)]), []) := by
  have hw := wci c
  obtain ⟨B, hB⟩ : ∃ B, B = c :: r := ⟨_, rfl⟩
  have hB0 : B[0]? = some c := by rw [hB]; rfl
  have hB1 : B.drop 1 = r := by rw [hB]; rfl
  have hBl : B.length = r.length + 1 := by rw [hB]; rfl
  have hBb := bL_len B
  rw [← hB]
  rw [icall_body rfl Try.func37]
  generalize icall Try.prog cfg (k + 3) = ic at *
  as_aux_lemma =>
    obtain ⟨lp, hlp⟩ : ∃ lp, lp = lpOf Try.prog cfg ic Try.f37.ntmps 37 (k + 3) ((([] : Hp)).map (·.1)) := ⟨_, rfl⟩
    rw [← hlp]
    conv => lhs; whnf
    refine iteK_dec (fun h1 => ?_) (fun h1 => ?_)
    · rw [dec_t h1]
      (exfalso; omega)
    · rw [dec_f h1]
      conv => lhs; whnf
      refine iteK_beq (fun h2 => ?_) (fun h2 => ?_)
      · rw [beq_t h2]
        (exfalso; omega)
      · rw [beq_f h2]
        conv => lhs; whnf
        refine nextK_of (aop_ix rfl rfl rfl rfl (ixL_at' (n := 0) rfl (bL_get hB0) rfl)) ?_
        conv => lhs; whnf
        refine nextK_of (aop_from (a := 1) (y := r) rfl rfl rfl rfl rfl (by omega) hB1) ?_
        conv => lhs; whnf
        refine iteK_beq (fun h3 => ?_) (fun h3 => ?_)
        · rw [beq_t h3]
          (exfalso; omega)
        · rw [beq_f h3]
          conv => lhs; whnf
          refine iteK_beq (fun h4 => ?_) (fun h4 => ?_)
          · rw [beq_t h4]
            (exfalso; omega)
          · rw [beq_f h4]
            conv => lhs; whnf
            refine iteK_beq (fun h5 => ?_) (fun h5 => ?_)
            · rw [beq_t h5]
              (exfalso; omega)
            · rw [beq_f h5]
              conv => lhs; whnf
              refine iteK_beq (fun h6 => ?_) (fun h6 => ?_)
              · rw [beq_t h6]
                (exfalso; omega)
              · rw [beq_f h6]
                conv => lhs; whnf
                refine iteK_beq (fun h7 => ?_) (fun h7 => ?_)
                · rw [beq_t h7]
                  conv => lhs; whnf
                  refine (loop_goE hlp ?_)
                  conv => lhs; whnf
                  refine nextK_of (holdO_of (a := St.mk [((0 : Nat), AV.d (D.list (bL r))), ((1 : Nat), AV.d (D.int IntKind.i64 z)), ((4 : Nat), AV.ptr (Nm.slot (4 : Nat)) (0 : Nat)), ((7 : Nat), AV.ptr (Nm.slot (7 : Nat)) (0 : Nat)), ((76 : Nat), AV.d (D.int IntKind.i64 (1 : Int))), ((77 : Nat), AV.d (D.int IntKind.i64 (0 : Int)))] [(Nm.slot (4 : Nat), AObj.cells [AV.d (D.int IntKind.i64 (0 : Int)), AV.d (D.int IntKind.i64 (0 : Int)), AV.d (D.str []), AV.nilsl]), (Nm.slot (7 : Nat), AObj.cells [AV.d (D.int IntKind.i64 (IntKind.wrap IntKind.i64 ↑c.toBitVec.toFin.1)), AV.d (D.int IntKind.i64 (0 : Int)), AV.d (D.str []), AV.nilsl])]) (by kernel_rfl)) ?_
                  conv => lhs; whnf
                  refine nextK_of ih ?_
                  conv => lhs; whnf
                  refine iteK_bne_t g1 ?_
                  conv => lhs; whnf
                  refine nextK_of (holdO_of (a := (Fx.ret, St.mk [((0 : Nat), AV.d (D.list (bL r))), ((4 : Nat), AV.ptr (Nm.slot (4 : Nat)) (0 : Nat)), ((5 : Nat), AV.nilsl), ((6 : Nat), AV.d (D.int IntKind.i64 e1)), ((7 : Nat), AV.ptr (Nm.slot (7 : Nat)) (0 : Nat))] [(Nm.slot (4 : Nat), AObj.cells [AV.d (D.int IntKind.i64 (0 : Int)), AV.d (D.int IntKind.i64 (0 : Int)), AV.d (D.str []), AV.nilsl]), (Nm.slot (7 : Nat), AObj.cells [AV.d (D.int IntKind.i64 (IntKind.wrap IntKind.i64 ↑c.toBitVec.toFin.1)), AV.d (D.int IntKind.i64 (0 : Int)), AV.d (D.str []), AV.nilsl])])) (by kernel_rfl)) ?_
                  conv => lhs; whnf
                  refine Eq.trans (b := some (Res.ret (AV.tuple [AV.agg [AV.d (D.int IntKind.i64 (0 : Int)), AV.d (D.int IntKind.i64 (0 : Int)), AV.d (D.str []), AV.d (D.list [])], AV.d (D.list []), AV.d (D.int IntKind.i64 e1)]), [])) (by kernel_rfl) ?_
                  rfl
                · rw [beq_f h7]
                  conv => lhs; whnf
                  refine iteK_beq (fun h8 => ?_) (fun h8 => ?_)
                  · rw [beq_t h8]
                    conv => lhs; whnf
                    refine (loop_goE hlp ?_)
                    conv => lhs; whnf
                    refine nextK_of (holdO_of (a := St.mk [((0 : Nat), AV.d (D.list (bL r))), ((1 : Nat), AV.d (D.int IntKind.i64 z)), ((4 : Nat), AV.ptr (Nm.slot (4 : Nat)) (0 : Nat)), ((7 : Nat), AV.ptr (Nm.slot (7 : Nat)) (0 : Nat)), ((76 : Nat), AV.d (D.int IntKind.i64 (1 : Int))), ((77 : Nat), AV.d (D.int IntKind.i64 (0 : Int)))] [(Nm.slot (4 : Nat), AObj.cells [AV.d (D.int IntKind.i64 (0 : Int)), AV.d (D.int IntKind.i64 (0 : Int)), AV.d (D.str []), AV.nilsl]), (Nm.slot (7 : Nat), AObj.cells [AV.d (D.int IntKind.i64 (IntKind.wrap IntKind.i64 ↑c.toBitVec.toFin.1)), AV.d (D.int IntKind.i64 (0 : Int)), AV.d (D.str []), AV.nilsl])]) (by kernel_rfl)) ?_
                    conv => lhs; whnf
                    refine nextK_of ih ?_
                    conv => lhs; whnf
                    refine iteK_bne_t g1 ?_
                    conv => lhs; whnf
                    refine nextK_of (holdO_of (a := (Fx.ret, St.mk [((0 : Nat), AV.d (D.list (bL r))), ((4 : Nat), AV.ptr (Nm.slot (4 : Nat)) (0 : Nat)), ((5 : Nat), AV.nilsl), ((6 : Nat), AV.d (D.int IntKind.i64 e1)), ((7 : Nat), AV.ptr (Nm.slot (7 : Nat)) (0 : Nat))] [(Nm.slot (4 : Nat), AObj.cells [AV.d (D.int IntKind.i64 (0 : Int)), AV.d (D.int IntKind.i64 (0 : Int)), AV.d (D.str []), AV.nilsl]), (Nm.slot (7 : Nat), AObj.cells [AV.d (D.int IntKind.i64 (IntKind.wrap IntKind.i64 ↑c.toBitVec.toFin.1)), AV.d (D.int IntKind.i64 (0 : Int)), AV.d (D.str []), AV.nilsl])])) (by kernel_rfl)) ?_
                    conv => lhs; whnf
                    refine Eq.trans (b := some (Res.ret (AV.tuple [AV.agg [AV.d (D.int IntKind.i64 (0 : Int)), AV.d (D.int IntKind.i64 (0 : Int)), AV.d (D.str []), AV.d (D.list [])], AV.d (D.list []), AV.d (D.int IntKind.i64 e1)]), [])) (by kernel_rfl) ?_
                    rfl
                  · rw [beq_f h8]
                    conv => lhs; whnf
                    refine iteK_dec (fun h9 => ?_) (fun h9 => ?_)
                    · rw [dec_t h9]
                      (exfalso; omega)
                    · rw [dec_f h9]
                      conv => lhs; whnf
                      refine iteK_dec (fun h10 => ?_) (fun h10 => ?_)
                      · rw [dec_t h10]
                        (exfalso; omega)
                      · rw [dec_f h10]
                        conv => lhs; whnf
                        refine (loop_goE hlp ?_)
                        conv => lhs; whnf
                        refine nextK_of (holdO_of (a := St.mk [((0 : Nat), AV.d (D.list (bL r))), ((1 : Nat), AV.d (D.int IntKind.i64 z)), ((4 : Nat), AV.ptr (Nm.slot (4 : Nat)) (0 : Nat)), ((7 : Nat), AV.ptr (Nm.slot (7 : Nat)) (0 : Nat)), ((76 : Nat), AV.d (D.int IntKind.i64 (2 : Int))), ((77 : Nat), AV.d (D.int IntKind.i64 (0 : Int)))] [(Nm.slot (4 : Nat), AObj.cells [AV.d (D.int IntKind.i64 (0 : Int)), AV.d (D.int IntKind.i64 (0 : Int)), AV.d (D.str []), AV.nilsl]), (Nm.slot (7 : Nat), AObj.cells [AV.d (D.int IntKind.i64 (IntKind.wrap IntKind.i64 ↑c.toBitVec.toFin.1)), AV.d (D.int IntKind.i64 (0 : Int)), AV.d (D.str []), AV.nilsl])]) (by kernel_rfl)) ?_
                        conv => lhs; whnf
                        refine nextK_of ih ?_
                        conv => lhs; whnf
                        refine iteK_bne_t g1 ?_
                        conv => lhs; whnf
                        refine nextK_of (holdO_of (a := (Fx.ret, St.mk [((0 : Nat), AV.d (D.list (bL r))), ((4 : Nat), AV.ptr (Nm.slot (4 : Nat)) (0 : Nat)), ((5 : Nat), AV.nilsl), ((6 : Nat), AV.d (D.int IntKind.i64 e1)), ((7 : Nat), AV.ptr (Nm.slot (7 : Nat)) (0 : Nat))] [(Nm.slot (4 : Nat), AObj.cells [AV.d (D.int IntKind.i64 (0 : Int)), AV.d (D.int IntKind.i64 (0 : Int)), AV.d (D.str []), AV.nilsl]), (Nm.slot (7 : Nat), AObj.cells [AV.d (D.int IntKind.i64 (IntKind.wrap IntKind.i64 ↑c.toBitVec.toFin.1)), AV.d (D.int IntKind.i64 (0 : Int)), AV.d (D.str []), AV.nilsl])])) (by kernel_rfl)) ?_
                        conv => lhs; whnf
                        refine Eq.trans (b := some (Res.ret (AV.tuple [AV.agg [AV.d (D.int IntKind.i64 (0 : Int)), AV.d (D.int IntKind.i64 (0 : Int)), AV.d (D.str []), AV.d (D.list [])], AV.d (D.list []), AV.d (D.int IntKind.i64 e1)]), [])) (by kernel_rfl) ?_
                        rfl
theorem read37_1 (k : Nat) (c : UInt8) (r : List UInt8) (z : Int) (hz : 1 ≤ z ∧ z ≤ 16) (hb : r.length + 1 ≤ maxLen) (hk : 20 < k) (t1 : T) (q1 : List UInt8) (ih : icall Try.prog cfg (k + 3) 37 [.d (.list (bL r)), .d (.int .i64 (IntKind.i64.wrap (z + 1)))] [] = some (.ret (.tuple [t1.av, .d (.list (bL q1)), .d (.int .i64 0)]), [])) (h : (c.toNat : Int) = 5 ∨ (c.toNat : Int) = 6) :
    icall Try.prog cfg (k + 3 + 1) 37 [.d (.list (bL (c :: r))), .d (.int .i64 z)] [] = some (.ret (.tuple [(T.mk c.toNat 0 [] [t1]).av, .d (.list (bL q1)), .d (.int .i64 0)]), []) := by
  obtain ⟨tk, tn, ts, tl⟩ := t1
  have hw := wci c
  obtain ⟨B, hB⟩ : ∃ B, B = c :: r := ⟨_, rfl⟩
  have hB0 : B[0]? = some c := by rw [hB]; rfl
  have hB1 : B.drop 1 = r := by rw [hB]; rfl
  have hBl : B.length = r.length + 1 := by rw [hB]; rfl
  have hBb := bL_len B
  rw [← hB]
  rw [icall_body rfl Try.func37]
  generalize icall Try.prog cfg (k + 3) = ic at *
  as_aux_lemma =>
    obtain ⟨lp, hlp⟩ : ∃ lp, lp = lpOf Try.prog cfg ic Try.f37.ntmps 37 (k + 3) ((([] : Hp)).map (·.1)) := ⟨_, rfl⟩
    rw [← hlp]
    conv => lhs; whnf
    refine iteK_dec (fun h1 => ?_) (fun h1 => ?_)
    · rw [dec_t h1]
      (exfalso; omega)
    · rw [dec_f h1]
      conv => lhs; whnf
      refine iteK_beq (fun h2 => ?_) (fun h2 => ?_)
      · rw [beq_t h2]
        (exfalso; omega)
      · rw [beq_f h2]
        conv => lhs; whnf
        refine nextK_of (aop_ix rfl rfl rfl rfl (ixL_at' (n := 0) rfl (bL_get hB0) rfl)) ?_
        conv => lhs; whnf
        refine nextK_of (aop_from (a := 1) (y := r) rfl rfl rfl rfl rfl (by omega) hB1) ?_
        conv => lhs; whnf
        refine iteK_beq (fun h3 => ?_) (fun h3 => ?_)
        · rw [beq_t h3]
          (exfalso; omega)
        · rw [beq_f h3]
          conv => lhs; whnf
          refine iteK_beq (fun h4 => ?_) (fun h4 => ?_)
          · rw [beq_t h4]
            (exfalso; omega)
          · rw [beq_f h4]
            conv => lhs; whnf
            refine iteK_beq (fun h5 => ?_) (fun h5 => ?_)
            · rw [beq_t h5]
              (exfalso; omega)
            · rw [beq_f h5]
              conv => lhs; whnf
              refine iteK_beq (fun h6 => ?_) (fun h6 => ?_)
              · rw [beq_t h6]
                (exfalso; omega)
              · rw [beq_f h6]
                conv => lhs; whnf
                refine iteK_beq (fun h7 => ?_) (fun h7 => ?_)
                · rw [beq_t h7]
                  conv => lhs; whnf
                  refine (loop_goE hlp ?_)
                  conv => lhs; whnf
                  refine nextK_of (holdO_of (a := St.mk [((0 : Nat), AV.d (D.list (bL r))), ((1 : Nat), AV.d (D.int IntKind.i64 z)), ((4 : Nat), AV.ptr (Nm.slot (4 : Nat)) (0 : Nat)), ((7 : Nat), AV.ptr (Nm.slot (7 : Nat)) (0 : Nat)), ((76 : Nat), AV.d (D.int IntKind.i64 (1 : Int))), ((77 : Nat), AV.d (D.int IntKind.i64 (0 : Int)))] [(Nm.slot (4 : Nat), AObj.cells [AV.d (D.int IntKind.i64 (0 : Int)), AV.d (D.int IntKind.i64 (0 : Int)), AV.d (D.str []), AV.nilsl]), (Nm.slot (7 : Nat), AObj.cells [AV.d (D.int IntKind.i64 (IntKind.wrap IntKind.i64 ↑c.toBitVec.toFin.1)), AV.d (D.int IntKind.i64 (0 : Int)), AV.d (D.str []), AV.nilsl])]) (by kernel_rfl)) ?_
                  conv => lhs; whnf
                  refine nextK_of ih ?_
                  conv => lhs; whnf
                  refine nextK_of (holdO_of (a := St.mk [((0 : Nat), AV.d (D.list (bL q1))), ((1 : Nat), AV.d (D.int IntKind.i64 z)), ((4 : Nat), AV.ptr (Nm.slot (4 : Nat)) (0 : Nat)), ((7 : Nat), AV.ptr (Nm.slot (7 : Nat)) (0 : Nat)), ((76 : Nat), AV.d (D.int IntKind.i64 (1 : Int))), ((77 : Nat), AV.d (D.int IntKind.i64 (1 : Int)))] [(Nm.slot (4 : Nat), AObj.cells [AV.d (D.int IntKind.i64 (0 : Int)), AV.d (D.int IntKind.i64 (0 : Int)), AV.d (D.str []), AV.nilsl]), (Nm.slot (7 : Nat), AObj.cells [AV.d (D.int IntKind.i64 (IntKind.wrap IntKind.i64 ↑c.toBitVec.toFin.1)), AV.d (D.int IntKind.i64 (0 : Int)), AV.d (D.str []), AV.own (Nm.slot (95 : Nat)) (nat_lit 0) (List.length [[D.int IntKind.i64 (T.kind (T.mk tk tn ts tl)), D.int IntKind.i64 (T.n (T.mk tk tn ts tl)), D.str (T.name (T.mk tk tn ts tl)), D.list (cellsL (T.kids (T.mk tk tn ts tl)))]])]), (Nm.slot (95 : Nat), AObj.arr (31 : Nat) (4 : Nat) (nat_lit 0) [[D.int IntKind.i64 (T.kind (T.mk tk tn ts tl)), D.int IntKind.i64 (T.n (T.mk tk tn ts tl)), D.str (T.name (T.mk tk tn ts tl)), D.list (cellsL (T.kids (T.mk tk tn ts tl)))]])]) (by kernel_rfl)) ?_
                  conv => lhs; whnf
                  refine nextK_of (holdO_of (a := (Fx.exit (1 : Nat), St.mk [((0 : Nat), AV.d (D.list (bL q1))), ((4 : Nat), AV.ptr (Nm.slot (4 : Nat)) (0 : Nat)), ((5 : Nat), AV.undef), ((6 : Nat), AV.undef), ((7 : Nat), AV.ptr (Nm.slot (7 : Nat)) (0 : Nat))] [(Nm.slot (4 : Nat), AObj.cells [AV.d (D.int IntKind.i64 (0 : Int)), AV.d (D.int IntKind.i64 (0 : Int)), AV.d (D.str []), AV.nilsl]), (Nm.slot (7 : Nat), AObj.cells [AV.d (D.int IntKind.i64 (IntKind.wrap IntKind.i64 ↑c.toBitVec.toFin.1)), AV.d (D.int IntKind.i64 (0 : Int)), AV.d (D.str []), AV.own (Nm.slot (95 : Nat)) (nat_lit 0) (List.length [[D.int IntKind.i64 (T.kind (T.mk tk tn ts tl)), D.int IntKind.i64 (T.n (T.mk tk tn ts tl)), D.str (T.name (T.mk tk tn ts tl)), D.list (cellsL (T.kids (T.mk tk tn ts tl)))]])]), (Nm.slot (95 : Nat), AObj.arr (31 : Nat) (4 : Nat) (nat_lit 0) [[D.int IntKind.i64 (T.kind (T.mk tk tn ts tl)), D.int IntKind.i64 (T.n (T.mk tk tn ts tl)), D.str (T.name (T.mk tk tn ts tl)), D.list (cellsL (T.kids (T.mk tk tn ts tl)))]])])) (by kernel_rfl)) ?_
                  conv => lhs; whnf
                  refine Eq.trans (b := some (Res.ret (AV.tuple [AV.agg [AV.d (D.int IntKind.i64 (IntKind.wrap IntKind.i64 ↑c.toBitVec.toFin.1)), AV.d (D.int IntKind.i64 (0 : Int)), AV.d (D.str []), AV.d (D.list [[D.int IntKind.i64 (T.kind (T.mk tk tn ts tl)), D.int IntKind.i64 (T.n (T.mk tk tn ts tl)), D.str (T.name (T.mk tk tn ts tl)), D.list (cellsL (T.kids (T.mk tk tn ts tl)))]])], AV.d (D.list (bL q1)), AV.d (D.int IntKind.i64 (0 : Int))]), [])) (by kernel_rfl) ?_
                  (exact congrArg (fun q => some (Res.ret (.tuple [.agg [.d (.int .i64 q), .d (.int .i64 0), .d (.str []), .d (.list [[.int .i64 tk, .int .i64 tn, .str ts, .list (cellsL tl)]])], .d (.list (bL q1)), .d (.int .i64 0)]), ([] : Hp))) hw)
                · rw [beq_f h7]
                  conv => lhs; whnf
                  refine iteK_beq (fun h8 => ?_) (fun h8 => ?_)
                  · rw [beq_t h8]
                    conv => lhs; whnf
                    refine (loop_goE hlp ?_)
                    conv => lhs; whnf
                    refine nextK_of (holdO_of (a := St.mk [((0 : Nat), AV.d (D.list (bL r))), ((1 : Nat), AV.d (D.int IntKind.i64 z)), ((4 : Nat), AV.ptr (Nm.slot (4 : Nat)) (0 : Nat)), ((7 : Nat), AV.ptr (Nm.slot (7 : Nat)) (0 : Nat)), ((76 : Nat), AV.d (D.int IntKind.i64 (1 : Int))), ((77 : Nat), AV.d (D.int IntKind.i64 (0 : Int)))] [(Nm.slot (4 : Nat), AObj.cells [AV.d (D.int IntKind.i64 (0 : Int)), AV.d (D.int IntKind.i64 (0 : Int)), AV.d (D.str []), AV.nilsl]), (Nm.slot (7 : Nat), AObj.cells [AV.d (D.int IntKind.i64 (IntKind.wrap IntKind.i64 ↑c.toBitVec.toFin.1)), AV.d (D.int IntKind.i64 (0 : Int)), AV.d (D.str []), AV.nilsl])]) (by kernel_rfl)) ?_
                    conv => lhs; whnf
                    refine nextK_of ih ?_
                    conv => lhs; whnf
                    refine nextK_of (holdO_of (a := St.mk [((0 : Nat), AV.d (D.list (bL q1))), ((1 : Nat), AV.d (D.int IntKind.i64 z)), ((4 : Nat), AV.ptr (Nm.slot (4 : Nat)) (0 : Nat)), ((7 : Nat), AV.ptr (Nm.slot (7 : Nat)) (0 : Nat)), ((76 : Nat), AV.d (D.int IntKind.i64 (1 : Int))), ((77 : Nat), AV.d (D.int IntKind.i64 (1 : Int)))] [(Nm.slot (4 : Nat), AObj.cells [AV.d (D.int IntKind.i64 (0 : Int)), AV.d (D.int IntKind.i64 (0 : Int)), AV.d (D.str []), AV.nilsl]), (Nm.slot (7 : Nat), AObj.cells [AV.d (D.int IntKind.i64 (IntKind.wrap IntKind.i64 ↑c.toBitVec.toFin.1)), AV.d (D.int IntKind.i64 (0 : Int)), AV.d (D.str []), AV.own (Nm.slot (95 : Nat)) (nat_lit 0) (List.length [[D.int IntKind.i64 (T.kind (T.mk tk tn ts tl)), D.int IntKind.i64 (T.n (T.mk tk tn ts tl)), D.str (T.name (T.mk tk tn ts tl)), D.list (cellsL (T.kids (T.mk tk tn ts tl)))]])]), (Nm.slot (95 : Nat), AObj.arr (31 : Nat) (4 : Nat) (nat_lit 0) [[D.int IntKind.i64 (T.kind (T.mk tk tn ts tl)), D.int IntKind.i64 (T.n (T.mk tk tn ts tl)), D.str (T.name (T.mk tk tn ts tl)), D.list (cellsL (T.kids (T.mk tk tn ts tl)))]])]) (by kernel_rfl)) ?_
                    conv => lhs; whnf
                    refine nextK_of (holdO_of (a := (Fx.exit (1 : Nat), St.mk [((0 : Nat), AV.d (D.list (bL q1))), ((4 : Nat), AV.ptr (Nm.slot (4 : Nat)) (0 : Nat)), ((5 : Nat), AV.undef), ((6 : Nat), AV.undef), ((7 : Nat), AV.ptr (Nm.slot (7 : Nat)) (0 : Nat))] [(Nm.slot (4 : Nat), AObj.cells [AV.d (D.int IntKind.i64 (0 : Int)), AV.d (D.int IntKind.i64 (0 : Int)), AV.d (D.str []), AV.nilsl]), (Nm.slot (7 : Nat), AObj.cells [AV.d (D.int IntKind.i64 (IntKind.wrap IntKind.i64 ↑c.toBitVec.toFin.1)), AV.d (D.int IntKind.i64 (0 : Int)), AV.d (D.str []), AV.own (Nm.slot (95 : Nat)) (nat_lit 0) (List.length [[D.int IntKind.i64 (T.kind (T.mk tk tn ts tl)), D.int IntKind.i64 (T.n (T.mk tk tn ts tl)), D.str (T.name (T.mk tk tn ts tl)), D.list (cellsL (T.kids (T.mk tk tn ts tl)))]])]), (Nm.slot (95 : Nat), AObj.arr (31 : Nat) (4 : Nat) (nat_lit 0) [[D.int IntKind.i64 (T.kind (T.mk tk tn ts tl)), D.int IntKind.i64 (T.n (T.mk tk tn ts tl)), D.str (T.name (T.mk tk tn ts tl)), D.list (cellsL (T.kids (T.mk tk tn ts tl)))]])])) (by kernel_rfl)) ?_
                    conv => lhs; whnf
                    refine Eq.trans (b := some (Res.ret (AV.tuple [AV.agg [AV.d (D.int IntKind.i64 (IntKind.wrap IntKind.i64 ↑c.toBitVec.toFin.1)), AV.d (D.int IntKind.i64 (0 : Int)), AV.d (D.str []), AV.d (D.list [[D.int IntKind.i64 (T.kind (T.mk tk tn ts tl)), D.int IntKind.i64 (T.n (T.mk tk tn ts tl)), D.str (T.name (T.mk tk tn ts tl)), D.list (cellsL (T.kids (T.mk tk tn ts tl)))]])], AV.d (D.list (bL q1)), AV.d (D.int IntKind.i64 (0 : Int))]), [])) (by kernel_rfl) ?_
                    (exact congrArg (fun q => some (Res.ret (.tuple [.agg [.d (.int .i64 q), .d (.int .i64 0), .d (.str []), .d (.list [[.int .i64 tk, .int .i64 tn, .str ts, .list (cellsL tl)]])], .d (.list (bL q1)), .d (.int .i64 0)]), ([] : Hp))) hw)
                  · rw [beq_f h8]
                    (exfalso; omega)
theorem read37_2e (k : Nat) (c : UInt8) (r : List UInt8) (z : Int) (hz : 1 ≤ z ∧ z ≤ 16) (hb : r.length + 1 ≤ maxLen) (hk : 20 < k) (t1 t2 : T) (q1 q2 : List UInt8) (e2 : Int) (g2 : e2 ≠ 0) (ih : icall Try.prog cfg (k + 3) 37 [.d (.list (bL r)), .d (.int .i64 (IntKind.i64.wrap (z + 1)))] [] = some (.ret (.tuple [t1.av, .d (.list (bL q1)), .d (.int .i64 0)]), [])) (ih2 : icall Try.prog cfg (k + 3) 37 [.d (.list (bL q1)), .d (.int .i64 (IntKind.i64.wrap (z + 1)))] [] = some (.ret (.tuple [t2.av, .d (.list (bL q2)), .d (.int .i64 e2)]), [])) (h : 7 ≤ (c.toNat : Int) ∧ (c.toNat : Int) ≤ 14) :
    icall Try.prog cfg (k + 3 + 1) 37 [.d (.list (bL (c :: r))), .d (.int .i64 z)] [] = some (.ret (.tuple [(T.mk 0 0 [] []).av, .d (.list (bL [])), .d (.int .i64 e2)]), []) := by
  obtain ⟨tk, tn, ts, tl⟩ := t1
  have hw := wci c
  obtain ⟨B, hB⟩ : ∃ B, B = c :: r := ⟨_, rfl⟩
  have hB0 : B[0]? = some c := by rw [hB]; rfl
  have hB1 : B.drop 1 = r := by rw [hB]; rfl
  have hBl : B.length = r.length + 1 := by rw [hB]; rfl
  have hBb := bL_len B
  rw [← hB]
  rw [icall_body rfl Try.func37]
  generalize icall Try.prog cfg (k + 3) = ic at *
  as_aux_lemma =>
    obtain ⟨lp, hlp⟩ : ∃ lp, lp = lpOf Try.prog cfg ic Try.f37.ntmps 37 (k + 3) ((([] : Hp)).map (·.1)) := ⟨_, rfl⟩
    rw [← hlp]
    conv => lhs; whnf
    refine iteK_dec (fun h1 => ?_) (fun h1 => ?_)
    · rw [dec_t h1]
      (exfalso; omega)
    · rw [dec_f h1]
      conv => lhs; whnf
      refine iteK_beq (fun h2 => ?_) (fun h2 => ?_)
      · rw [beq_t h2]
        (exfalso; omega)
      · rw [beq_f h2]
        conv => lhs; whnf
        refine nextK_of (aop_ix rfl rfl rfl rfl (ixL_at' (n := 0) rfl (bL_get hB0) rfl)) ?_
        conv => lhs; whnf
        refine nextK_of (aop_from (a := 1) (y := r) rfl rfl rfl rfl rfl (by omega) hB1) ?_
        conv => lhs; whnf
        refine iteK_beq (fun h3 => ?_) (fun h3 => ?_)
        · rw [beq_t h3]
          (exfalso; omega)
        · rw [beq_f h3]
          conv => lhs; whnf
          refine iteK_beq (fun h4 => ?_) (fun h4 => ?_)
          · rw [beq_t h4]
            (exfalso; omega)
          · rw [beq_f h4]
            conv => lhs; whnf
            refine iteK_beq (fun h5 => ?_) (fun h5 => ?_)
            · rw [beq_t h5]
              (exfalso; omega)
            · rw [beq_f h5]
              conv => lhs; whnf
              refine iteK_beq (fun h6 => ?_) (fun h6 => ?_)
              · rw [beq_t h6]
                (exfalso; omega)
              · rw [beq_f h6]
                conv => lhs; whnf
                refine iteK_beq (fun h7 => ?_) (fun h7 => ?_)
                · rw [beq_t h7]
                  (exfalso; omega)
                · rw [beq_f h7]
                  conv => lhs; whnf
                  refine iteK_beq (fun h8 => ?_) (fun h8 => ?_)
                  · rw [beq_t h8]
                    (exfalso; omega)
                  · rw [beq_f h8]
                    conv => lhs; whnf
                    refine iteK_dec (fun h9 => ?_) (fun h9 => ?_)
                    · rw [dec_t h9]
                      (exfalso; omega)
                    · rw [dec_f h9]
                      conv => lhs; whnf
                      refine iteK_dec (fun h10 => ?_) (fun h10 => ?_)
                      · rw [dec_t h10]
                        (exfalso; omega)
                      · rw [dec_f h10]
                        conv => lhs; whnf
                        refine (loop_goE hlp ?_)
                        conv => lhs; whnf
                        refine nextK_of (holdO_of (a := St.mk [((0 : Nat), AV.d (D.list (bL r))), ((1 : Nat), AV.d (D.int IntKind.i64 z)), ((4 : Nat), AV.ptr (Nm.slot (4 : Nat)) (0 : Nat)), ((7 : Nat), AV.ptr (Nm.slot (7 : Nat)) (0 : Nat)), ((76 : Nat), AV.d (D.int IntKind.i64 (2 : Int))), ((77 : Nat), AV.d (D.int IntKind.i64 (0 : Int)))] [(Nm.slot (4 : Nat), AObj.cells [AV.d (D.int IntKind.i64 (0 : Int)), AV.d (D.int IntKind.i64 (0 : Int)), AV.d (D.str []), AV.nilsl]), (Nm.slot (7 : Nat), AObj.cells [AV.d (D.int IntKind.i64 (IntKind.wrap IntKind.i64 ↑c.toBitVec.toFin.1)), AV.d (D.int IntKind.i64 (0 : Int)), AV.d (D.str []), AV.nilsl])]) (by kernel_rfl)) ?_
                        conv => lhs; whnf
                        refine nextK_of ih ?_
                        conv => lhs; whnf
                        refine nextK_of (holdO_of (a := St.mk [((0 : Nat), AV.d (D.list (bL q1))), ((1 : Nat), AV.d (D.int IntKind.i64 z)), ((4 : Nat), AV.ptr (Nm.slot (4 : Nat)) (0 : Nat)), ((7 : Nat), AV.ptr (Nm.slot (7 : Nat)) (0 : Nat)), ((76 : Nat), AV.d (D.int IntKind.i64 (2 : Int))), ((77 : Nat), AV.d (D.int IntKind.i64 (1 : Int)))] [(Nm.slot (4 : Nat), AObj.cells [AV.d (D.int IntKind.i64 (0 : Int)), AV.d (D.int IntKind.i64 (0 : Int)), AV.d (D.str []), AV.nilsl]), (Nm.slot (7 : Nat), AObj.cells [AV.d (D.int IntKind.i64 (IntKind.wrap IntKind.i64 ↑c.toBitVec.toFin.1)), AV.d (D.int IntKind.i64 (0 : Int)), AV.d (D.str []), AV.own (Nm.slot (95 : Nat)) (nat_lit 0) (List.length [[D.int IntKind.i64 (T.kind (T.mk tk tn ts tl)), D.int IntKind.i64 (T.n (T.mk tk tn ts tl)), D.str (T.name (T.mk tk tn ts tl)), D.list (cellsL (T.kids (T.mk tk tn ts tl)))]])]), (Nm.slot (95 : Nat), AObj.arr (31 : Nat) (4 : Nat) (nat_lit 0) [[D.int IntKind.i64 (T.kind (T.mk tk tn ts tl)), D.int IntKind.i64 (T.n (T.mk tk tn ts tl)), D.str (T.name (T.mk tk tn ts tl)), D.list (cellsL (T.kids (T.mk tk tn ts tl)))]])]) (by kernel_rfl)) ?_
                        conv => lhs; whnf
                        refine nextK_of ih2 ?_
                        conv => lhs; whnf
                        refine iteK_bne_t g2 ?_
                        conv => lhs; whnf
                        refine nextK_of (holdO_of (a := (Fx.ret, St.mk [((0 : Nat), AV.d (D.list (bL q1))), ((4 : Nat), AV.ptr (Nm.slot (4 : Nat)) (0 : Nat)), ((5 : Nat), AV.nilsl), ((6 : Nat), AV.d (D.int IntKind.i64 e2)), ((7 : Nat), AV.ptr (Nm.slot (7 : Nat)) (0 : Nat))] [(Nm.slot (4 : Nat), AObj.cells [AV.d (D.int IntKind.i64 (0 : Int)), AV.d (D.int IntKind.i64 (0 : Int)), AV.d (D.str []), AV.nilsl]), (Nm.slot (7 : Nat), AObj.cells [AV.d (D.int IntKind.i64 (IntKind.wrap IntKind.i64 ↑c.toBitVec.toFin.1)), AV.d (D.int IntKind.i64 (0 : Int)), AV.d (D.str []), AV.own (Nm.slot (95 : Nat)) (nat_lit 0) (List.length [[D.int IntKind.i64 (T.kind (T.mk tk tn ts tl)), D.int IntKind.i64 (T.n (T.mk tk tn ts tl)), D.str (T.name (T.mk tk tn ts tl)), D.list (cellsL (T.kids (T.mk tk tn ts tl)))]])]), (Nm.slot (95 : Nat), AObj.arr (31 : Nat) (4 : Nat) (nat_lit 0) [[D.int IntKind.i64 (T.kind (T.mk tk tn ts tl)), D.int IntKind.i64 (T.n (T.mk tk tn ts tl)), D.str (T.name (T.mk tk tn ts tl)), D.list (cellsL (T.kids (T.mk tk tn ts tl)))]])])) (by kernel_rfl)) ?_
                        conv => lhs; whnf
                        refine Eq.trans (b := some (Res.ret (AV.tuple [AV.agg [AV.d (D.int IntKind.i64 (0 : Int)), AV.d (D.int IntKind.i64 (0 : Int)), AV.d (D.str []), AV.d (D.list [])], AV.d (D.list []), AV.d (D.int IntKind.i64 e2)]), [])) (by kernel_rfl) ?_
                        rfl
theorem read37_2 (k : Nat) (c : UInt8) (r : List UInt8) (z : Int) (hz : 1 ≤ z ∧ z ≤ 16) (hb : r.length + 1 ≤ maxLen) (hk : 20 < k) (t1 t2 : T) (q1 q2 : List UInt8) (ih : icall Try.prog cfg (k + 3) 37 [.d (.list (bL r)), .d (.int .i64 (IntKind.i64.wrap (z + 1)))] [] = some (.ret (.tuple [t1.av, .d (.list (bL q1)), .d (.int .i64 0)]), [])) (ih2 : icall Try.prog cfg (k + 3) 37 [.d (.list (bL q1)), .d (.int .i64 (IntKind.i64.wrap (z + 1)))] [] = some (.ret (.tuple [t2.av, .d (.list (bL q2)), .d (.int .i64 0)]), [])) (h : 7 ≤ (c.toNat : Int) ∧ (c.toNat : Int) ≤ 14) :
    icall Try.prog cfg (k + 3 + 1) 37 [.d (.list (bL (c :: r))), .d (.int .i64 z)] [] = some (.ret (.tuple [(T.mk c.toNat 0 [] [t1, t2]).av, .d (.list (bL q2)), .d (.int .i64 0)]), []) := by
  obtain ⟨tk, tn, ts, tl⟩ := t1
  obtain ⟨uk, un, us, ul⟩ := t2
  have hw := wci c
  obtain ⟨B, hB⟩ : ∃ B, B = c :: r := ⟨_, rfl⟩
  have hB0 : B[0]? = some c := by rw [hB]; rfl
  have hB1 : B.drop 1 = r := by rw [hB]; rfl
  have hBl : B.length = r.length + 1 := by rw [hB]; rfl
  have hBb := bL_len B
  rw [← hB]
  rw [icall_body rfl Try.func37]
  generalize icall Try.prog cfg (k + 3) = ic at *
  as_aux_lemma =>
    obtain ⟨lp, hlp⟩ : ∃ lp, lp = lpOf Try.prog cfg ic Try.f37.ntmps 37 (k + 3) ((([] : Hp)).map (·.1)) := ⟨_, rfl⟩
    rw [← hlp]
    conv => lhs; whnf
    refine iteK_dec (fun h1 => ?_) (fun h1 => ?_)
    · rw [dec_t h1]
      (exfalso; omega)
    · rw [dec_f h1]
      conv => lhs; whnf
      refine iteK_beq (fun h2 => ?_) (fun h2 => ?_)
      · rw [beq_t h2]
        (exfalso; omega)
      · rw [beq_f h2]
        conv => lhs; whnf
        refine nextK_of (aop_ix rfl rfl rfl rfl (ixL_at' (n := 0) rfl (bL_get hB0) rfl)) ?_
        conv => lhs; whnf
        refine nextK_of (aop_from (a := 1) (y := r) rfl rfl rfl rfl rfl (by omega) hB1) ?_
        conv => lhs; whnf
        refine iteK_beq (fun h3 => ?_) (fun h3 => ?_)
        · rw [beq_t h3]
          (exfalso; omega)
        · rw [beq_f h3]
          conv => lhs; whnf
          refine iteK_beq (fun h4 => ?_) (fun h4 => ?_)
          · rw [beq_t h4]
            (exfalso; omega)
          · rw [beq_f h4]
            conv => lhs; whnf
            refine iteK_beq (fun h5 => ?_) (fun h5 => ?_)
            · rw [beq_t h5]
              (exfalso; omega)
            · rw [beq_f h5]
              conv => lhs; whnf
              refine iteK_beq (fun h6 => ?_) (fun h6 => ?_)
              · rw [beq_t h6]
                (exfalso; omega)
              · rw [beq_f h6]
                conv => lhs; whnf
                refine iteK_beq (fun h7 => ?_) (fun h7 => ?_)
                · rw [beq_t h7]
                  (exfalso; omega)
                · rw [beq_f h7]
                  conv => lhs; whnf
                  refine iteK_beq (fun h8 => ?_) (fun h8 => ?_)
                  · rw [beq_t h8]
                    (exfalso; omega)
                  · rw [beq_f h8]
                    conv => lhs; whnf
                    refine iteK_dec (fun h9 => ?_) (fun h9 => ?_)
                    · rw [dec_t h9]
                      (exfalso; omega)
                    · rw [dec_f h9]
                      conv => lhs; whnf
                      refine iteK_dec (fun h10 => ?_) (fun h10 => ?_)
                      · rw [dec_t h10]
                        (exfalso; omega)
                      · rw [dec_f h10]
                        conv => lhs; whnf
                        refine (loop_goE hlp ?_)
                        conv => lhs; whnf
                        refine nextK_of (holdO_of (a := St.mk [((0 : Nat), AV.d (D.list (bL r))), ((1 : Nat), AV.d (D.int IntKind.i64 z)), ((4 : Nat), AV.ptr (Nm.slot (4 : Nat)) (0 : Nat)), ((7 : Nat), AV.ptr (Nm.slot (7 : Nat)) (0 : Nat)), ((76 : Nat), AV.d (D.int IntKind.i64 (2 : Int))), ((77 : Nat), AV.d (D.int IntKind.i64 (0 : Int)))] [(Nm.slot (4 : Nat), AObj.cells [AV.d (D.int IntKind.i64 (0 : Int)), AV.d (D.int IntKind.i64 (0 : Int)), AV.d (D.str []), AV.nilsl]), (Nm.slot (7 : Nat), AObj.cells [AV.d (D.int IntKind.i64 (IntKind.wrap IntKind.i64 ↑c.toBitVec.toFin.1)), AV.d (D.int IntKind.i64 (0 : Int)), AV.d (D.str []), AV.nilsl])]) (by kernel_rfl)) ?_
                        conv => lhs; whnf
                        refine nextK_of ih ?_
                        conv => lhs; whnf
                        refine nextK_of (holdO_of (a := St.mk [((0 : Nat), AV.d (D.list (bL q1))), ((1 : Nat), AV.d (D.int IntKind.i64 z)), ((4 : Nat), AV.ptr (Nm.slot (4 : Nat)) (0 : Nat)), ((7 : Nat), AV.ptr (Nm.slot (7 : Nat)) (0 : Nat)), ((76 : Nat), AV.d (D.int IntKind.i64 (2 : Int))), ((77 : Nat), AV.d (D.int IntKind.i64 (1 : Int)))] [(Nm.slot (4 : Nat), AObj.cells [AV.d (D.int IntKind.i64 (0 : Int)), AV.d (D.int IntKind.i64 (0 : Int)), AV.d (D.str []), AV.nilsl]), (Nm.slot (7 : Nat), AObj.cells [AV.d (D.int IntKind.i64 (IntKind.wrap IntKind.i64 ↑c.toBitVec.toFin.1)), AV.d (D.int IntKind.i64 (0 : Int)), AV.d (D.str []), AV.own (Nm.slot (95 : Nat)) (nat_lit 0) (List.length [[D.int IntKind.i64 (T.kind (T.mk tk tn ts tl)), D.int IntKind.i64 (T.n (T.mk tk tn ts tl)), D.str (T.name (T.mk tk tn ts tl)), D.list (cellsL (T.kids (T.mk tk tn ts tl)))]])]), (Nm.slot (95 : Nat), AObj.arr (31 : Nat) (4 : Nat) (nat_lit 0) [[D.int IntKind.i64 (T.kind (T.mk tk tn ts tl)), D.int IntKind.i64 (T.n (T.mk tk tn ts tl)), D.str (T.name (T.mk tk tn ts tl)), D.list (cellsL (T.kids (T.mk tk tn ts tl)))]])]) (by kernel_rfl)) ?_
                        conv => lhs; whnf
                        refine nextK_of ih2 ?_
                        conv => lhs; whnf
                        refine nextK_of (holdO_of (a := St.mk [((0 : Nat), AV.d (D.list (bL q2))), ((1 : Nat), AV.d (D.int IntKind.i64 z)), ((4 : Nat), AV.ptr (Nm.slot (4 : Nat)) (0 : Nat)), ((7 : Nat), AV.ptr (Nm.slot (7 : Nat)) (0 : Nat)), ((76 : Nat), AV.d (D.int IntKind.i64 (2 : Int))), ((77 : Nat), AV.d (D.int IntKind.i64 (2 : Int)))] [(Nm.slot (4 : Nat), AObj.cells [AV.d (D.int IntKind.i64 (0 : Int)), AV.d (D.int IntKind.i64 (0 : Int)), AV.d (D.str []), AV.nilsl]), (Nm.slot (7 : Nat), AObj.cells [AV.d (D.int IntKind.i64 (IntKind.wrap IntKind.i64 ↑c.toBitVec.toFin.1)), AV.d (D.int IntKind.i64 (0 : Int)), AV.d (D.str []), AV.own (Nm.slot (95 : Nat)) (nat_lit 0) (List.length [[D.int IntKind.i64 (T.kind (T.mk tk tn ts tl)), D.int IntKind.i64 (T.n (T.mk tk tn ts tl)), D.str (T.name (T.mk tk tn ts tl)), D.list (cellsL (T.kids (T.mk tk tn ts tl)))]] + List.length [[D.int IntKind.i64 (T.kind (T.mk uk un us ul)), D.int IntKind.i64 (T.n (T.mk uk un us ul)), D.str (T.name (T.mk uk un us ul)), D.list (cellsL (T.kids (T.mk uk un us ul)))]])]), (Nm.slot (95 : Nat), AObj.arr (31 : Nat) (4 : Nat) (nat_lit 0) [[D.int IntKind.i64 (T.kind (T.mk tk tn ts tl)), D.int IntKind.i64 (T.n (T.mk tk tn ts tl)), D.str (T.name (T.mk tk tn ts tl)), D.list (cellsL (T.kids (T.mk tk tn ts tl)))], [D.int IntKind.i64 (T.kind (T.mk uk un us ul)), D.int IntKind.i64 (T.n (T.mk uk un us ul)), D.str (T.name (T.mk uk un us ul)), D.list (cellsL (T.kids (T.mk uk un us ul)))]])]) (by kernel_rfl)) ?_
                        conv => lhs; whnf
                        refine nextK_of (holdO_of (a := (Fx.exit (1 : Nat), St.mk [((0 : Nat), AV.d (D.list (bL q2))), ((4 : Nat), AV.ptr (Nm.slot (4 : Nat)) (0 : Nat)), ((5 : Nat), AV.undef), ((6 : Nat), AV.undef), ((7 : Nat), AV.ptr (Nm.slot (7 : Nat)) (0 : Nat))] [(Nm.slot (4 : Nat), AObj.cells [AV.d (D.int IntKind.i64 (0 : Int)), AV.d (D.int IntKind.i64 (0 : Int)), AV.d (D.str []), AV.nilsl]), (Nm.slot (7 : Nat), AObj.cells [AV.d (D.int IntKind.i64 (IntKind.wrap IntKind.i64 ↑c.toBitVec.toFin.1)), AV.d (D.int IntKind.i64 (0 : Int)), AV.d (D.str []), AV.own (Nm.slot (95 : Nat)) (nat_lit 0) (List.length [[D.int IntKind.i64 (T.kind (T.mk tk tn ts tl)), D.int IntKind.i64 (T.n (T.mk tk tn ts tl)), D.str (T.name (T.mk tk tn ts tl)), D.list (cellsL (T.kids (T.mk tk tn ts tl)))]] + List.length [[D.int IntKind.i64 (T.kind (T.mk uk un us ul)), D.int IntKind.i64 (T.n (T.mk uk un us ul)), D.str (T.name (T.mk uk un us ul)), D.list (cellsL (T.kids (T.mk uk un us ul)))]])]), (Nm.slot (95 : Nat), AObj.arr (31 : Nat) (4 : Nat) (nat_lit 0) [[D.int IntKind.i64 (T.kind (T.mk tk tn ts tl)), D.int IntKind.i64 (T.n (T.mk tk tn ts tl)), D.str (T.name (T.mk tk tn ts tl)), D.list (cellsL (T.kids (T.mk tk tn ts tl)))], [D.int IntKind.i64 (T.kind (T.mk uk un us ul)), D.int IntKind.i64 (T.n (T.mk uk un us ul)), D.str (T.name (T.mk uk un us ul)), D.list (cellsL (T.kids (T.mk uk un us ul)))]])])) (by kernel_rfl)) ?_
                        conv => lhs; whnf
                        refine Eq.trans (b := some (Res.ret (AV.tuple [AV.agg [AV.d (D.int IntKind.i64 (IntKind.wrap IntKind.i64 ↑c.toBitVec.toFin.1)), AV.d (D.int IntKind.i64 (0 : Int)), AV.d (D.str []), AV.d (D.list [[D.int IntKind.i64 (T.kind (T.mk tk tn ts tl)), D.int IntKind.i64 (T.n (T.mk tk tn ts tl)), D.str (T.name (T.mk tk tn ts tl)), D.list (cellsL (T.kids (T.mk tk tn ts tl)))], [D.int IntKind.i64 (T.kind (T.mk uk un us ul)), D.int IntKind.i64 (T.n (T.mk uk un us ul)), D.str (T.name (T.mk uk un us ul)), D.list (cellsL (T.kids (T.mk uk un us ul)))]])], AV.d (D.list (bL q2)), AV.d (D.int IntKind.i64 (0 : Int))]), [])) (by kernel_rfl) ?_
                        (exact congrArg (fun q => some (Res.ret (.tuple [.agg [.d (.int .i64 q), .d (.int .i64 0), .d (.str []), .d (.list [[.int .i64 tk, .int .i64 tn, .str ts, .list (cellsL tl)], [.int .i64 uk, .int .i64 un, .str us, .list (cellsL ul)]])], .d (.list (bL q2)), .d (.int .i64 0)]), ([] : Hp))) hw)
theorem read37 : ∀ (m : Nat), m ≤ 16 → ∀ k, m + 24 < k → R37 k m := by
  intro m
  induction m with
  | zero =>
    intro hm k hk b z hz hb
    rw [rdT_0]
    obtain ⟨k, rfl⟩ : ∃ j, k = j + 1 := ⟨k - 1, by omega⟩
    rw [icall_body rfl Try.func37]
    obtain ⟨lp, hlp⟩ : ∃ lp, lp = lpOf Try.prog cfg (icall Try.prog cfg k) Try.f37.ntmps 37 k (([] : Hp).map (·.1)) := ⟨_, rfl⟩
    rw [← hlp]
    conv => lhs; whnf
    refine iteK_dec (fun h1 => ?_) (fun h1 => ?_)
    · rw [dec_t h1]
      conv => lhs; whnf
      refine Eq.trans (b := some (Res.ret (AV.tuple [AV.agg [AV.d (D.int IntKind.i64 (0 : Int)), AV.d (D.int IntKind.i64 (0 : Int)), AV.d (D.str []), AV.d (D.list [])], AV.d (D.list []), AV.d (D.int IntKind.i64 (6 : Int))]), [])) (by kernel_rfl) ?_
      rfl
    · rw [dec_f h1]
      (exfalso; omega)
  | succ m ihm =>
    intro hm k hk b z hz hb
    match b, hb with
    | [], _ =>
      rw [rdT_nil]
      obtain ⟨k, rfl⟩ : ∃ j, k = j + 1 := ⟨k - 1, by omega⟩
      rw [icall_body rfl Try.func37]
      obtain ⟨lp, hlp⟩ : ∃ lp, lp = lpOf Try.prog cfg (icall Try.prog cfg k) Try.f37.ntmps 37 k (([] : Hp).map (·.1)) := ⟨_, rfl⟩
      rw [← hlp]
      conv => lhs; whnf
      refine iteK_dec (fun h1 => ?_) (fun h1 => ?_)
      · rw [dec_t h1]
        (exfalso; omega)
      · rw [dec_f h1]
        conv => lhs; whnf
        refine Eq.trans (b := some (Res.ret (AV.tuple [AV.agg [AV.d (D.int IntKind.i64 (0 : Int)), AV.d (D.int IntKind.i64 (0 : Int)), AV.d (D.str []), AV.d (D.list [])], AV.d (D.list []), AV.d (D.int IntKind.i64 (5 : Int))]), [])) (by kernel_rfl) ?_
        rfl
    | c :: r, hb =>
      rw [List.length_cons] at hb
      obtain ⟨k, rfl⟩ : ∃ j, k = j + 3 + 1 := ⟨k - 4, by omega⟩
      have ih := ihm (by omega) (k + 3) (by omega)
      have hz2 : IntKind.i64.wrap (z + 1) = 17 - (m : Int) := by rw [Go.Rx.wrap_i64 (by omega) (by omega)]; omega
      have ih1 := ih r _ hz2 (by omega)
      have hz3 : 1 ≤ z ∧ z ≤ 16 := by omega
      by_cases c1 : (c.toNat : Int) = 1
      · rw [rdT_1 c1]
        have hc := readI72 r (by omega) (k + 3) (by omega)
        have e0 : rest (c :: r) (1 + (rdI r).2.1) (rdI r).2.2 = rest r (rdI r).2.1 (rdI r).2.2 := by unfold rest; rw [Nat.add_comm 1, List.drop_succ_cons]
        dsimp only
        rw [e0]
        exact read37_a k c r z hz3 hb (by omega) _ _ _ hc c1
      · by_cases c2 : (c.toNat : Int) = 2
        · rw [rdT_2 c2]
          have hc := readB73 r (by omega) (k + 3) (by omega)
          have e0 : rest (c :: r) (1 + (rdB r).2.1) (rdB r).2.2 = rest r (rdB r).2.1 (rdB r).2.2 := by unfold rest; rw [Nat.add_comm 1, List.drop_succ_cons]
          dsimp only
          rw [e0]
          exact read37_b k c r z hz3 hb (by omega) _ _ _ hc c2
        · by_cases c3 : (c.toNat : Int) = 3 ∨ (c.toNat : Int) = 4
          · rw [rdT_k0 c3]
            exact read37_0 k c r z hz3 hb (by omega) c3
          · by_cases c4 : 5 ≤ (c.toNat : Int) ∧ (c.toNat : Int) ≤ 14
            · by_cases e1 : (rdT m r).2.2 = 0
              · rw [e1, rest_0] at ih1
                by_cases c5 : (c.toNat : Int) = 5 ∨ (c.toNat : Int) = 6
                · rw [rdT_k1 c5, if_neg (by omega)]
                  have e0 : rest (c :: r) (1 + (rdT m r).2.1) 0 = r.drop (rdT m r).2.1 := by rw [rest_0, Nat.add_comm 1, List.drop_succ_cons]
                  dsimp only
                  rw [e0]
                  exact read37_1 k c r z hz3 hb (by omega) _ _ ih1 c5
                · have ih2 := ih (r.drop (rdT m r).2.1) _ hz2 (by rw [List.length_drop]; omega)
                  rw [rdT_k2 (by omega), if_neg (by omega)]
                  by_cases e2 : (rdT m (r.drop (rdT m r).2.1)).2.2 = 0
                  · rw [e2, rest_0] at ih2
                    rw [if_neg (by omega)]
                    have e0 : rest (c :: r) (1 + (rdT m r).2.1 + (rdT m (r.drop (rdT m r).2.1)).2.1) 0 = (r.drop (rdT m r).2.1).drop (rdT m (r.drop (rdT m r).2.1)).2.1 := by
                      rw [rest_0, List.drop_drop, show 1 + (rdT m r).2.1 + (rdT m (r.drop (rdT m r).2.1)).2.1 = (rdT m r).2.1 + (rdT m (r.drop (rdT m r).2.1)).2.1 + 1 by omega, List.drop_succ_cons]
                    dsimp only
                    rw [e0]
                    exact read37_2 k c r z hz3 hb (by omega) _ _ _ _ ih1 ih2 (by omega)
                  · rw [if_pos e2]
                    dsimp only
                    rw [rest_e _ _ e2]
                    exact read37_2e k c r z hz3 hb (by omega) _ _ _ _ _ e2 ih1 ih2 (by omega)
              · have e0 : rdT (m + 1) (c :: r) = (T0, 0, (rdT m r).2.2) := by
                  by_cases c5 : (c.toNat : Int) = 5 ∨ (c.toNat : Int) = 6
                  · rw [rdT_k1 c5, if_pos e1]
                  · rw [rdT_k2 (by omega), if_pos e1]
                rw [e0]
                dsimp only
                rw [rest_e _ _ e1]
                exact read37_1e k c r z hz3 hb (by omega) _ _ _ e1 ih1 (by omega)
            · rw [rdT_n (by omega)]
              exact read37_n k c r z hz3 hb (by omega) (by omega)
end Go.Rx11
