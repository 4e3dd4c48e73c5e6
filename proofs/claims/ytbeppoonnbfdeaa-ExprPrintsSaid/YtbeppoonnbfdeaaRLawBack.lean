/- A part of the proof of the law: what functions of the program come to, walked by Rx, or plain facts on it. -/
import Derived.Test.YtbeppoonnbfdeaaRPrint
open Go Go.Rx Go.Proofs Go.Rx07 Go.RxTree
set_option maxRecDepth 1000000
set_option maxHeartbeats 4000000
set_option linter.unusedVariables false
set_option linter.unusedSimpArgs false
namespace Go.Rx07
open Go.Rx07.P (POut T0 parseX_t)
theorem law6 (x : T) (hox : x.Ok) (hsx : x.Sm) (k : Nat) (hk : x.wt + 200 < k) : icall Try.prog cfg k 6 [x.av] [] = some (.ret (.d (.bool true)), []) := by
  obtain ⟨k, rfl⟩ : ∃ j, k = j + 1 := ⟨k - 1, by omega⟩
  have wk := works9 k (by omega)
  have cl := light13 x hox k (by omega)
  replace cl : icall Try.prog cfg k 13 [.agg [.d (.int .i64 x.kind), .d (.int .i64 x.n), .d (.str x.name), .d (.list (cellsL x.kids))]] [] = some (.ret (.d (.bool (decide (weighT x 500 30 ≤ 500)))), []) := cl
  obtain ⟨y, er, at', hpo, hp⟩ := parseX_t (textS x 1)
  have cp := print14 x hsx hox y er at' hp k (by omega)
  rw [← parse10 _ k (by omega)] at hp
  replace hp : icall Try.prog cfg k 10 [.d (.str (textS x 1))] [] = some (.ret (.tuple [.agg [.d (.int .i64 y.kind), .d (.int .i64 y.n), .d (.str y.name), .d (.list (cellsL y.kids))], .agg [.d (.int .i64 er), .d (.int .i64 at')]]), []) := hp
  have hsm := same12 _ x y (Nat.le_refl _) hox k (by omega)
  replace hsm : icall Try.prog cfg k 12 [.agg [.d (.int .i64 x.kind), .d (.int .i64 x.n), .d (.str x.name), .d (.list (cellsL x.kids))], .agg [.d (.int .i64 y.kind), .d (.int .i64 y.n), .d (.str y.name), .d (.list (cellsL y.kids))]] [] = some (.ret (.d (.bool (sameT x y))), []) := hsm
  show icall Try.prog cfg _ _ [.agg [.d (.int .i64 x.kind), .d (.int .i64 x.n), .d (.str x.name), .d (.list (cellsL x.kids))]] [] = _
  unfold printS at cp
  by_cases hc0 : checkT x 1 ≠ 0
  · rw [if_pos hc0] at cp
    dsimp only at cp
    generalize checkT x 1 = c at *
    rw [icall_body rfl Try.func6]
    obtain ⟨lp, hlp⟩ : ∃ lp, lp = lpOf Try.prog cfg (icall Try.prog cfg k) Try.f6.ntmps 6 k (([] : Hp).map (·.1)) := ⟨_, rfl⟩
    rw [← hlp]
    conv => lhs; whnf
    refine nextK_b cl (fun h1 => ?_) (fun h1 => ?_)
    · conv => lhs; whnf
      refine nextK_of cp ?_
      conv => lhs; whnf
      refine iteK_bne_t hc0 ?_
      conv => lhs; whnf
      refine nextK_of wk ?_
      conv => lhs; whnf
      refine Eq.trans (b := some (Res.ret (AV.d (D.bool true)), [])) (by kernel_rfl) ?_
      rfl
    · conv => lhs; whnf
      refine nextK_of wk ?_
      conv => lhs; whnf
      refine Eq.trans (b := some (Res.ret (AV.d (D.bool true)), [])) (by kernel_rfl) ?_
      rfl
  · rw [if_neg hc0] at cp
    by_cases hq : er = 0 ∧ sameT x y = true
    · rw [if_pos hq] at cp
      rw [hq.1] at hp
      rw [hq.2] at hsm
      dsimp only at cp
      generalize textS x 1 = s at *
      rw [icall_body rfl Try.func6]
      obtain ⟨lp, hlp⟩ : ∃ lp, lp = lpOf Try.prog cfg (icall Try.prog cfg k) Try.f6.ntmps 6 k (([] : Hp).map (·.1)) := ⟨_, rfl⟩
      rw [← hlp]
      conv => lhs; whnf
      refine nextK_b cl (fun h1 => ?_) (fun h1 => ?_)
      · conv => lhs; whnf
        refine nextK_of cp ?_
        conv => lhs; whnf
        refine nextK_of hp ?_
        conv => lhs; whnf
        refine nextK_of hsm ?_
        conv => lhs; whnf
        refine nextK_of wk ?_
        conv => lhs; whnf
        refine Eq.trans (b := some (Res.ret (AV.d (D.bool true)), [])) (by kernel_rfl) ?_
        rfl
      · conv => lhs; whnf
        refine nextK_of wk ?_
        conv => lhs; whnf
        refine Eq.trans (b := some (Res.ret (AV.d (D.bool true)), [])) (by kernel_rfl) ?_
        rfl
    · rw [if_neg hq] at cp
      dsimp only at cp
      rw [icall_body rfl Try.func6]
      obtain ⟨lp, hlp⟩ : ∃ lp, lp = lpOf Try.prog cfg (icall Try.prog cfg k) Try.f6.ntmps 6 k (([] : Hp).map (·.1)) := ⟨_, rfl⟩
      rw [← hlp]
      conv => lhs; whnf
      refine nextK_b cl (fun h1 => ?_) (fun h1 => ?_)
      · conv => lhs; whnf
        refine nextK_of cp ?_
        conv => lhs; whnf
        refine nextK_of wk ?_
        conv => lhs; whnf
        refine Eq.trans (b := some (Res.ret (AV.d (D.bool true)), [])) (by kernel_rfl) ?_
        rfl
      · conv => lhs; whnf
        refine nextK_of wk ?_
        conv => lhs; whnf
        refine Eq.trans (b := some (Res.ret (AV.d (D.bool true)), [])) (by kernel_rfl) ?_
        rfl
theorem checkR (t : T) (hs : t.Sm) (ho : t.Ok) (k : Nat) (hk : t.wt + 1 < k) : icall Try.prog cfg k 17 [.agg [.d (.int .i64 t.kind), .d (.int .i64 t.n), .d (.str t.name), .d (.list (cellsL t.kids))]] [] = some (.ret (.d (.int .i64 (checkT t 1))), []) := check19 t hs ho k hk
theorem law7 (s : List UInt8) (hs : s.length ≤ maxLen) (hs2 : s.length ≤ 140737488351232) (k : Nat) (hk : 10000000 < k) : icall Try.prog cfg k 7 [.d (.str s)] [] = some (.ret (.d (.bool true)), []) := by
  obtain ⟨k, rfl⟩ : ∃ j, k = j + 1 := ⟨k - 1, by omega⟩
  have wk := works9 k (by omega)
  by_cases hbig : (s.length : Int) > 1500
  · rw [icall_body rfl Try.func7]
    obtain ⟨lp, hlp⟩ : ∃ lp, lp = lpOf Try.prog cfg (icall Try.prog cfg k) Try.f7.ntmps 7 k (([] : Hp).map (·.1)) := ⟨_, rfl⟩
    rw [← hlp]
    conv => lhs; whnf
    refine iteK_dec_t hbig ?_
    conv => lhs; whnf
    refine nextK_of wk ?_
    conv => lhs; whnf
    refine Eq.trans (b := some (Res.ret (AV.d (D.bool true)), [])) (by kernel_rfl) ?_
    rfl
  obtain ⟨x, er, at', hpo, hp⟩ := parseX_t s
  rw [← parse10 _ k (by omega)] at hp
  replace hp : icall Try.prog cfg k 10 [.d (.str s)] [] = some (.ret (.tuple [.agg [.d (.int .i64 x.kind), .d (.int .i64 x.n), .d (.str x.name), .d (.list (cellsL x.kids))], .agg [.d (.int .i64 er), .d (.int .i64 at')]]), []) := hp
  rcases hpo with ⟨her, hat, hox, hsx, hck, hwt⟩ | ⟨her, hx0, ha0, ha1⟩
  · subst her hat
    obtain ⟨y, er2, at2, hpo2, hp2⟩ := parseX_t (textS x 1)
    have cp := print14 x hsx hox y er2 at2 hp2 k (by omega)
    rw [← parse10 _ k (by omega)] at hp2
    have hcr := checkR x hsx hox k (by omega)
    rw [hck] at hcr
    unfold printS at cp
    rw [if_neg (fun h => h hck)] at cp
    by_cases hq : er2 = 0 ∧ sameT x y = true
    · rw [if_pos hq] at cp
      dsimp only at cp
      have hxy := (sameT_iff x y).1 hq.2
      subst hxy
      have hsm := same12 _ x x (Nat.le_refl _) hox k (by omega)
      rw [sameT_refl] at hsm
      replace hsm : icall Try.prog cfg k 12 [.agg [.d (.int .i64 x.kind), .d (.int .i64 x.n), .d (.str x.name), .d (.list (cellsL x.kids))], .agg [.d (.int .i64 x.kind), .d (.int .i64 x.n), .d (.str x.name), .d (.list (cellsL x.kids))]] [] = some (.ret (.d (.bool true)), []) := hsm
      rw [hq.1] at hp2
      replace hp2 : icall Try.prog cfg k 10 [.d (.str (textS x 1))] [] = some (.ret (.tuple [.agg [.d (.int .i64 x.kind), .d (.int .i64 x.n), .d (.str x.name), .d (.list (cellsL x.kids))], .agg [.d (.int .i64 0), .d (.int .i64 at2)]]), []) := hp2
      generalize textS x 1 = s2 at *
      rw [icall_body rfl Try.func7]
      obtain ⟨lp, hlp⟩ : ∃ lp, lp = lpOf Try.prog cfg (icall Try.prog cfg k) Try.f7.ntmps 7 k (([] : Hp).map (·.1)) := ⟨_, rfl⟩
      rw [← hlp]
      conv => lhs; whnf
      refine iteK_dec_f hbig ?_
      conv => lhs; whnf
      refine nextK_of hp ?_
      conv => lhs; whnf
      refine nextK_of cp ?_
      conv => lhs; whnf
      refine nextK_of hp2 ?_
      conv => lhs; whnf
      refine nextK_of cp ?_
      conv => lhs; whnf
      refine nextK_of hcr ?_
      conv => lhs; whnf
      refine nextK_of hsm ?_
      conv => lhs; whnf
      refine iteK_beq (fun h1 => ?_) (fun h1 => ?_)
      · rw [beq_t h1]
        conv => lhs; whnf
        refine nextK_of wk ?_
        conv => lhs; whnf
        refine Eq.trans (b := some (Res.ret (AV.d (D.bool true)), [])) (by kernel_rfl) ?_
        rfl
      · rw [beq_f h1]
        conv => lhs; whnf
        refine Eq.trans (b := some (Res.ret (AV.d (D.bool false)), [])) (by kernel_rfl) ?_
        exact absurd rfl (by assumption)
    · rw [if_neg hq] at cp
      dsimp only at cp
      rw [icall_body rfl Try.func7]
      obtain ⟨lp, hlp⟩ : ∃ lp, lp = lpOf Try.prog cfg (icall Try.prog cfg k) Try.f7.ntmps 7 k (([] : Hp).map (·.1)) := ⟨_, rfl⟩
      rw [← hlp]
      conv => lhs; whnf
      refine iteK_dec_f hbig ?_
      conv => lhs; whnf
      refine nextK_of hp ?_
      conv => lhs; whnf
      refine nextK_of cp ?_
      conv => lhs; whnf
      refine nextK_of hcr ?_
      conv => lhs; whnf
      refine nextK_of wk ?_
      conv => lhs; whnf
      refine Eq.trans (b := some (Res.ret (AV.d (D.bool true)), [])) (by kernel_rfl) ?_
      rfl
  · subst hx0
    have hsm : icall Try.prog cfg k 12 [.agg [.d (.int .i64 0), .d (.int .i64 0), .d (.str []), .d (.list [])], .agg [.d (.int .i64 0), .d (.int .i64 0), .d (.str []), .d (.list [])]] [] = some (.ret (.d (.bool true)), []) := by
      have hw0 : T0.wt ≤ 100 := by decide
      have := same12 _ T0 T0 (Nat.le_refl _) ⟨by decide, by decide, by simp, by simp, trivial⟩ k (by omega)
      rw [sameT_refl] at this
      exact this
    replace hp : icall Try.prog cfg k 10 [.d (.str s)] [] = some (.ret (.tuple [.agg [.d (.int .i64 0), .d (.int .i64 0), .d (.str []), .d (.list [])], .agg [.d (.int .i64 er), .d (.int .i64 at')]]), []) := hp
    rw [icall_body rfl Try.func7]
    obtain ⟨lp, hlp⟩ : ∃ lp, lp = lpOf Try.prog cfg (icall Try.prog cfg k) Try.f7.ntmps 7 k (([] : Hp).map (·.1)) := ⟨_, rfl⟩
    rw [← hlp]
    conv => lhs; whnf
    refine iteK_dec_f hbig ?_
    conv => lhs; whnf
    refine nextK_of hp ?_
    conv => lhs; whnf
    refine iteK_bne_t her ?_
    conv => lhs; whnf
    refine nextK_of hsm ?_
    conv => lhs; whnf
    refine iteK_dec_t ha0 ?_
    conv => lhs; whnf
    refine iteK_dec_t ha0 ?_
    conv => lhs; whnf
    refine iteK_dec_t ha0 ?_
    conv => lhs; whnf
    refine iteK_dec_t ha0 ?_
    conv => lhs; whnf
    refine iteK_dec_t ha0 ?_
    conv => lhs; whnf
    refine iteK_dec_t ha0 ?_
    conv => lhs; whnf
    refine iteK_dec_t ha1 ?_
    conv => lhs; whnf
    refine nextK_of wk ?_
    conv => lhs; whnf
    refine iteK_dec_t ha1 ?_
    conv => lhs; whnf
    refine Eq.trans (b := some (Res.ret (AV.d (D.bool true)), [])) (by kernel_rfl) ?_
    rfl
end Go.Rx07
