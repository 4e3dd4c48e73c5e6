/- A part of the proof of the law: what functions of the program come to, walked by Rx, or plain facts on it. -/
import Derived.Test.YtahnmikdpclbfaaRReadX
import Derived.Test.YtahnmikdpclbfaaRSame
import Derived.Test.YtahnmikdpclbfaaRPut
import Derived.Test.YtahnmikdpclbfaaRExprB
import Derived.Test.YtahnmikdpclbfaaRLaw3
open Go Go.Rx Go.Proofs Go.Rx11 Go.RxTree
set_option maxRecDepth 1000000
set_option maxHeartbeats 4000000
set_option linter.unusedVariables false
set_option linter.unusedSimpArgs false
namespace Go.Rx11
theorem law4 (x : T) (hox : x.Ok) (hsx : x.Sm) (b : List UInt8) (hob : b.length ≤ maxLen) (hsb : b.length ≤ 140737488351232) (k : Nat) (hk : x.wt + (rdT 16 b).1.wt + 300 < k) : icall Try.prog cfg k 4 [x.av, .d (.list (bL b))] [] = some (.ret (.d (.bool true)), []) := by
  obtain ⟨k, rfl⟩ : ∃ j, k = j + 1 := ⟨k - 1, by omega⟩
  have c0 := weight14 x 300 hox (by omega) (by omega) k (by omega)
  have wk := works11 k (by omega)
  have c1 := readX15 b hsb k (by omega)
  have c2 := readX16 b hsb k (by omega)
  obtain ⟨o1, o2⟩ := rdX_ok b hsb
  have hwx : (rdX b).1.wt ≤ (rdT 16 b).1.wt + 5 := by
    by_cases h : (rdX b).2.2 = 0
    · rw [((rdX_b b).1 h).2.2.2.2]; omega
    · rw [(rdX_b b).2 h]; simp [T.wt, wtL]
  have c3 := same17 _ (rdX b).1 (Nat.le_refl _) o1 k (by omega)
  have hb := (rdX_b b).1
  have c5 := check19 x hsx hox k (by omega)
  have c6 : checkT x 1 = 0 → _ := fun h => (put20 _ x (Nat.le_refl _) 1 h hox k (by omega)).2 (by have := expr_most h hox; omega)
  have c7 : checkT x 1 = 0 → _ := fun h => expr21 _ x (Nat.le_refl _) 1 h hox (by have := expr_most h hox; omega) k (by omega)
  have c8 := same18 (exprB x) (exprB x) k (by omega)
  rw [beq_t (rfl : exprB x = exprB x)] at c8
  have c9 : icall Try.prog cfg k 18 [.d (.list ((bL (exprB x)).take (bL (exprB x)).length)), .d (.list (bL (exprB x)))] [] = some (.ret (.d (.bool true)), []) := by rw [List.take_length]; exact c8
  have c4 := fun r => same18 r r k (by omega)
  replace c4 : ∀ r, icall Try.prog cfg k 18 [.d (.list (bL r)), .d (.list (bL r))] [] = some (.ret (.d (.bool true)), []) := fun r => by rw [c4 r, beq_t (rfl : r = r)]
  generalize rdX b = r at *
  obtain ⟨⟨tk, tn, ts, tl⟩, q, e⟩ := r
  dsimp only at c1 c2 c3 hb
  generalize checkT x 1 = ec at *
  generalize bL (exprB x) = L at *
  obtain ⟨xk, xn, xs, xl⟩ := x
  by_cases h0 : e = 0
  · subst h0
    obtain ⟨hq, _⟩ := hb rfl
    rw [rest_0] at c1
    by_cases hc : ec = 0
    · subst hc
      replace c6 := c6 rfl
      replace c7 := c7 rfl
      rw [icall_body rfl Try.func4]
      obtain ⟨lp, hlp⟩ : ∃ lp, lp = lpOf Try.prog cfg (icall Try.prog cfg k) Try.f4.ntmps 4 k (([] : Hp).map (·.1)) := ⟨_, rfl⟩
      rw [← hlp]
      conv => lhs; whnf
      refine nextK_of c0 ?_
      conv => lhs; whnf
      refine iteK_dec (fun h1 => ?_) (fun h1 => ?_)
      · rw [dec_t h1]
        conv => lhs; whnf
        refine nextK_of wk ?_
        conv => lhs; whnf
        refine Eq.trans (b := some (Res.ret (AV.d (D.bool true)), [])) (by kernel_rfl) ?_
        rfl
      · rw [dec_f h1]
        conv => lhs; whnf
        refine iteK_dec (fun h2 => ?_) (fun h2 => ?_)
        · rw [dec_t h2]
          conv => lhs; whnf
          refine nextK_of wk ?_
          conv => lhs; whnf
          refine Eq.trans (b := some (Res.ret (AV.d (D.bool true)), [])) (by kernel_rfl) ?_
          rfl
        · rw [dec_f h2]
          conv => lhs; whnf
          refine nextK_of c1 ?_
          conv => lhs; whnf
          refine nextK_of c2 ?_
          conv => lhs; whnf
          refine nextK_of c3 ?_
          conv => lhs; whnf
          refine nextK_of (aop_from (z := b) (a := q) rfl rfl rfl rfl rfl hq rfl) ?_
          conv => lhs; whnf
          refine nextK_of (c4 (b.drop q)) ?_
          conv => lhs; whnf
          refine iteO_t (by kernel_rfl) ?_
          conv => lhs; whnf
          refine nextK_of c5 ?_
          conv => lhs; whnf
          refine nextK_of c6 ?_
          conv => lhs; whnf
          refine nextK_of c7 ?_
          conv => lhs; whnf
          refine nextK_of c9 ?_
          conv => lhs; whnf
          refine nextK_of wk ?_
          conv => lhs; whnf
          refine iteO_t (by kernel_rfl) ?_
          conv => lhs; whnf
          refine Eq.trans (b := some (Res.ret (AV.d (D.bool true)), [])) (by kernel_rfl) ?_
          rfl
    · rw [icall_body rfl Try.func4]
      obtain ⟨lp, hlp⟩ : ∃ lp, lp = lpOf Try.prog cfg (icall Try.prog cfg k) Try.f4.ntmps 4 k (([] : Hp).map (·.1)) := ⟨_, rfl⟩
      rw [← hlp]
      conv => lhs; whnf
      refine nextK_of c0 ?_
      conv => lhs; whnf
      refine iteK_dec (fun h1 => ?_) (fun h1 => ?_)
      · rw [dec_t h1]
        conv => lhs; whnf
        refine nextK_of wk ?_
        conv => lhs; whnf
        refine Eq.trans (b := some (Res.ret (AV.d (D.bool true)), [])) (by kernel_rfl) ?_
        rfl
      · rw [dec_f h1]
        conv => lhs; whnf
        refine iteK_dec (fun h2 => ?_) (fun h2 => ?_)
        · rw [dec_t h2]
          conv => lhs; whnf
          refine nextK_of wk ?_
          conv => lhs; whnf
          refine Eq.trans (b := some (Res.ret (AV.d (D.bool true)), [])) (by kernel_rfl) ?_
          rfl
        · rw [dec_f h2]
          conv => lhs; whnf
          refine nextK_of c1 ?_
          conv => lhs; whnf
          refine nextK_of c2 ?_
          conv => lhs; whnf
          refine nextK_of c3 ?_
          conv => lhs; whnf
          refine nextK_of (aop_from (z := b) (a := q) rfl rfl rfl rfl rfl hq rfl) ?_
          conv => lhs; whnf
          refine nextK_of (c4 (b.drop q)) ?_
          conv => lhs; whnf
          refine iteO_t (by kernel_rfl) ?_
          conv => lhs; whnf
          refine nextK_of c5 ?_
          conv => lhs; whnf
          refine iteK_bne_t hc ?_
          conv => lhs; whnf
          refine iteK_bne_t hc ?_
          conv => lhs; whnf
          refine iteK_bne_t hc ?_
          conv => lhs; whnf
          refine iteK_bne_t hc ?_
          conv => lhs; whnf
          refine iteK_bne_t hc ?_
          conv => lhs; whnf
          refine iteK_bne_t hc ?_
          conv => lhs; whnf
          refine nextK_of wk ?_
          conv => lhs; whnf
          refine iteO_t (by kernel_rfl) ?_
          conv => lhs; whnf
          refine Eq.trans (b := some (Res.ret (AV.d (D.bool true)), [])) (by kernel_rfl) ?_
          rfl
  · rw [rest_e _ _ h0] at c1
    by_cases hc : ec = 0
    · subst hc
      replace c6 := c6 rfl
      replace c7 := c7 rfl
      rw [icall_body rfl Try.func4]
      obtain ⟨lp, hlp⟩ : ∃ lp, lp = lpOf Try.prog cfg (icall Try.prog cfg k) Try.f4.ntmps 4 k (([] : Hp).map (·.1)) := ⟨_, rfl⟩
      rw [← hlp]
      conv => lhs; whnf
      refine nextK_of c0 ?_
      conv => lhs; whnf
      refine iteK_dec (fun h1 => ?_) (fun h1 => ?_)
      · rw [dec_t h1]
        conv => lhs; whnf
        refine nextK_of wk ?_
        conv => lhs; whnf
        refine Eq.trans (b := some (Res.ret (AV.d (D.bool true)), [])) (by kernel_rfl) ?_
        rfl
      · rw [dec_f h1]
        conv => lhs; whnf
        refine iteK_dec (fun h2 => ?_) (fun h2 => ?_)
        · rw [dec_t h2]
          conv => lhs; whnf
          refine nextK_of wk ?_
          conv => lhs; whnf
          refine Eq.trans (b := some (Res.ret (AV.d (D.bool true)), [])) (by kernel_rfl) ?_
          rfl
        · rw [dec_f h2]
          conv => lhs; whnf
          refine nextK_of c1 ?_
          conv => lhs; whnf
          refine nextK_of c2 ?_
          conv => lhs; whnf
          refine iteK_bne (fun h3 => ?_) (fun h3 => ?_)
          · rw [bne_t h3]
            (exfalso; omega)
          · rw [bne_f h3]
            conv => lhs; whnf
            refine nextK_of c3 ?_
            conv => lhs; whnf
            refine iteK_beq_f h0 ?_
            conv => lhs; whnf
            refine iteK_beq_f h0 ?_
            conv => lhs; whnf
            refine iteK_beq_f h0 ?_
            conv => lhs; whnf
            refine iteK_beq_f h0 ?_
            conv => lhs; whnf
            refine iteK_beq_f h0 ?_
            conv => lhs; whnf
            refine iteK_beq_f h0 ?_
            conv => lhs; whnf
            refine iteK_beq_f h0 ?_
            conv => lhs; whnf
            refine iteO_t (by kernel_rfl) ?_
            conv => lhs; whnf
            refine nextK_of c5 ?_
            conv => lhs; whnf
            refine nextK_of c6 ?_
            conv => lhs; whnf
            refine nextK_of c7 ?_
            conv => lhs; whnf
            refine nextK_of c9 ?_
            conv => lhs; whnf
            refine nextK_of wk ?_
            conv => lhs; whnf
            refine iteO_t (by kernel_rfl) ?_
            conv => lhs; whnf
            refine Eq.trans (b := some (Res.ret (AV.d (D.bool true)), [])) (by kernel_rfl) ?_
            rfl
    · rw [icall_body rfl Try.func4]
      obtain ⟨lp, hlp⟩ : ∃ lp, lp = lpOf Try.prog cfg (icall Try.prog cfg k) Try.f4.ntmps 4 k (([] : Hp).map (·.1)) := ⟨_, rfl⟩
      rw [← hlp]
      conv => lhs; whnf
      refine nextK_of c0 ?_
      conv => lhs; whnf
      refine iteK_dec (fun h1 => ?_) (fun h1 => ?_)
      · rw [dec_t h1]
        conv => lhs; whnf
        refine nextK_of wk ?_
        conv => lhs; whnf
        refine Eq.trans (b := some (Res.ret (AV.d (D.bool true)), [])) (by kernel_rfl) ?_
        rfl
      · rw [dec_f h1]
        conv => lhs; whnf
        refine iteK_dec (fun h2 => ?_) (fun h2 => ?_)
        · rw [dec_t h2]
          conv => lhs; whnf
          refine nextK_of wk ?_
          conv => lhs; whnf
          refine Eq.trans (b := some (Res.ret (AV.d (D.bool true)), [])) (by kernel_rfl) ?_
          rfl
        · rw [dec_f h2]
          conv => lhs; whnf
          refine nextK_of c1 ?_
          conv => lhs; whnf
          refine nextK_of c2 ?_
          conv => lhs; whnf
          refine iteK_bne (fun h3 => ?_) (fun h3 => ?_)
          · rw [bne_t h3]
            (exfalso; omega)
          · rw [bne_f h3]
            conv => lhs; whnf
            refine nextK_of c3 ?_
            conv => lhs; whnf
            refine iteK_beq_f h0 ?_
            conv => lhs; whnf
            refine iteK_beq_f h0 ?_
            conv => lhs; whnf
            refine iteK_beq_f h0 ?_
            conv => lhs; whnf
            refine iteK_beq_f h0 ?_
            conv => lhs; whnf
            refine iteK_beq_f h0 ?_
            conv => lhs; whnf
            refine iteK_beq_f h0 ?_
            conv => lhs; whnf
            refine iteK_beq_f h0 ?_
            conv => lhs; whnf
            refine iteO_t (by kernel_rfl) ?_
            conv => lhs; whnf
            refine nextK_of c5 ?_
            conv => lhs; whnf
            refine iteK_bne_t hc ?_
            conv => lhs; whnf
            refine iteK_bne_t hc ?_
            conv => lhs; whnf
            refine iteK_bne_t hc ?_
            conv => lhs; whnf
            refine iteK_bne_t hc ?_
            conv => lhs; whnf
            refine iteK_bne_t hc ?_
            conv => lhs; whnf
            refine iteK_bne_t hc ?_
            conv => lhs; whnf
            refine nextK_of wk ?_
            conv => lhs; whnf
            refine iteO_t (by kernel_rfl) ?_
            conv => lhs; whnf
            refine Eq.trans (b := some (Res.ret (AV.d (D.bool true)), [])) (by kernel_rfl) ?_
            rfl
end Go.Rx11
