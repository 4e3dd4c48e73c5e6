/- A part of the proof of the law: what functions of the program come to, walked by Rx, or plain facts on it. -/
import Derived.Test.YtbeppoonnbfdeaaRText3
import Derived.Test.YtbeppoonnbfdeaaRLawPar
open Go Go.Rx Go.Proofs Go.Rx07 Go.RxTree
set_option maxRecDepth 1000000
set_option maxHeartbeats 4000000
set_option linter.unusedVariables false
set_option linter.unusedSimpArgs false
namespace Go.Rx07
open Go.Rx07.P (POut T0 parseX_t parseS parseX_s parseS_out)
theorem print15 (x : T) (hs : x.Sm) (ho : x.Ok) (y : T) (er at' : Int) (k : Nat) (hp : icall Try.prog cfg k 11 [.d (.str (textS x 1))] [] = some (.ret (.tuple [.agg [.d (.int .i64 y.kind), .d (.int .i64 y.n), .d (.str y.name), .d (.list (cellsL y.kids))], .agg [.d (.int .i64 er), .d (.int .i64 at')]]), [])) (hk : x.wt + 200 < k) :
    icall Try.prog cfg (k + 1) 15 [.agg [.d (.int .i64 x.kind), .d (.int .i64 x.n), .d (.str x.name), .d (.list (cellsL x.kids))]] [] = some (.ret (.tuple [.d (.str (printS x er (sameT x y)).1), .d (.int .i64 (printS x er (sameT x y)).2)]), []) := by
  have hc := checkR x hs ho k (by omega)
  have hsm := same12 _ x y (Nat.le_refl _) ho k (by omega)
  replace hsm : icall Try.prog cfg k 12 [.agg [.d (.int .i64 x.kind), .d (.int .i64 x.n), .d (.str x.name), .d (.list (cellsL x.kids))], .agg [.d (.int .i64 y.kind), .d (.int .i64 y.n), .d (.str y.name), .d (.list (cellsL y.kids))]] [] = some (.ret (.d (.bool (sameT x y))), []) := hsm
  unfold printS
  by_cases hc0 : checkT x 1 = 0
  · have ht := (text28 16 x (by omega) ho hc0).1 k (by omega)
    replace ht : icall Try.prog cfg k 28 [.agg [.d (.int .i64 x.kind), .d (.int .i64 x.n), .d (.str x.name), .d (.list (cellsL x.kids))]] [] = some (.ret (.d (.str (textS x 1))), []) := ht
    rw [hc0] at hc
    rw [if_neg (fun h => h hc0)]
    generalize textS x 1 = s at *
    by_cases he : er = 0
    · subst he
      cases hq : sameT x y
      · rw [hq] at hsm
        rw [if_neg (by simp)]
        rw [icall_body rfl Try.func15]
        obtain ⟨lp, hlp⟩ : ∃ lp, lp = lpOf Try.prog cfg (icall Try.prog cfg k) Try.f15.ntmps 15 k (([] : Hp).map (·.1)) := ⟨_, rfl⟩
        rw [← hlp]
        conv => lhs; whnf
        refine nextK_of hc ?_
        conv => lhs; whnf
        refine nextK_of ht ?_
        conv => lhs; whnf
        refine nextK_of hp ?_
        conv => lhs; whnf
        refine nextK_of hsm ?_
        conv => lhs; whnf
        refine Eq.trans (b := some (Res.ret (AV.tuple [AV.d (D.str []), AV.d (D.int IntKind.i64 (6 : Int))]), [])) (by kernel_rfl) ?_
        rfl
      · rw [hq] at hsm
        rw [if_pos ⟨rfl, rfl⟩]
        rw [icall_body rfl Try.func15]
        obtain ⟨lp, hlp⟩ : ∃ lp, lp = lpOf Try.prog cfg (icall Try.prog cfg k) Try.f15.ntmps 15 k (([] : Hp).map (·.1)) := ⟨_, rfl⟩
        rw [← hlp]
        conv => lhs; whnf
        refine nextK_of hc ?_
        conv => lhs; whnf
        refine nextK_of ht ?_
        conv => lhs; whnf
        refine nextK_of hp ?_
        conv => lhs; whnf
        refine nextK_of hsm ?_
        conv => lhs; whnf
        refine Eq.trans (b := some (Res.ret (AV.tuple [AV.d (D.str s), AV.d (D.int IntKind.i64 (0 : Int))]), [])) (by kernel_rfl) ?_
        rfl
    · rw [if_neg (fun h => he h.1)]
      rw [icall_body rfl Try.func15]
      obtain ⟨lp, hlp⟩ : ∃ lp, lp = lpOf Try.prog cfg (icall Try.prog cfg k) Try.f15.ntmps 15 k (([] : Hp).map (·.1)) := ⟨_, rfl⟩
      rw [← hlp]
      conv => lhs; whnf
      refine nextK_of hc ?_
      conv => lhs; whnf
      refine nextK_of ht ?_
      conv => lhs; whnf
      refine nextK_of hp ?_
      conv => lhs; whnf
      refine iteK_bne_t he ?_
      conv => lhs; whnf
      refine iteK_bne_t he ?_
      conv => lhs; whnf
      refine iteK_bne_t he ?_
      conv => lhs; whnf
      refine iteK_bne_t he ?_
      conv => lhs; whnf
      refine iteK_bne_t he ?_
      conv => lhs; whnf
      refine Eq.trans (b := some (Res.ret (AV.tuple [AV.d (D.str []), AV.d (D.int IntKind.i64 (6 : Int))]), [])) (by kernel_rfl) ?_
      rfl
  · rw [if_pos hc0]
    generalize checkT x 1 = c at *
    rw [icall_body rfl Try.func15]
    obtain ⟨lp, hlp⟩ : ∃ lp, lp = lpOf Try.prog cfg (icall Try.prog cfg k) Try.f15.ntmps 15 k (([] : Hp).map (·.1)) := ⟨_, rfl⟩
    rw [← hlp]
    conv => lhs; whnf
    refine nextK_of hc ?_
    conv => lhs; whnf
    refine iteK_bne_t hc0 ?_
    conv => lhs; whnf
    refine Eq.trans (b := some (Res.ret (AV.tuple [AV.d (D.str []), AV.d (D.int IntKind.i64 c)]), [])) (by kernel_rfl) ?_
    rfl
theorem law4 (x : T) (hox : x.Ok) (hsx : x.Sm) (k : Nat) (hk : x.wt + 90000000000000 < k) : icall Try.prog cfg k 4 [x.av] [] = some (.ret (.d (.bool true)), []) := by
  obtain ⟨k, rfl⟩ : ∃ j, k = j + 1 := ⟨k - 1, by omega⟩
  have wk := works9 k (by omega)
  have cl := light13 x hox k (by omega)
  replace cl : icall Try.prog cfg k 13 [.agg [.d (.int .i64 x.kind), .d (.int .i64 x.n), .d (.str x.name), .d (.list (cellsL x.kids))]] [] = some (.ret (.d (.bool (decide (weighT x 500 30 ≤ 500)))), []) := cl
  have hlen : checkT x 1 = 0 → (textS x 1).length ≤ 4000000 := fun h => by
    have := textS_len 16 x 1 hox h
    have hp16 : (2 : Nat) ^ 16 = 65536 := by decide
    omega
  show icall Try.prog cfg _ _ [.agg [.d (.int .i64 x.kind), .d (.int .i64 x.n), .d (.str x.name), .d (.list (cellsL x.kids))]] [] = _
  have hc1 := check16 x hsx hox k (by omega)
  have hc2 := checkR x hsx hox k (by omega)
  have hp := parseX_s (textS x 1)
  have cp := print14 x hsx hox (parseS (textS x 1)).1 (parseS (textS x 1)).2.1 (parseS (textS x 1)).2.2 hp k (by omega)
  have cq : icall Try.prog cfg k 15 [.agg [.d (.int .i64 x.kind), .d (.int .i64 x.n), .d (.str x.name), .d (.list (cellsL x.kids))]] [] = some (.ret (.tuple [.d (.str (printS x (parseS (textS x 1)).2.1 (sameT x (parseS (textS x 1)).1)).1), .d (.int .i64 (printS x (parseS (textS x 1)).2.1 (sameT x (parseS (textS x 1)).1)).2)]), []) := by
    by_cases h0 : checkT x 1 = 0
    · obtain ⟨k, rfl⟩ : ∃ j, k = j + 1 := ⟨k - 1, by omega⟩
      have hl := hlen h0
      exact print15 x hsx hox (parseS (textS x 1)).1 (parseS (textS x 1)).2.1 (parseS (textS x 1)).2.2 k (parse11 (textS x 1) (by omega) k (by omega)) (by omega)
    · unfold printS
      rw [if_pos h0]
      obtain ⟨k, rfl⟩ : ∃ j, k = j + 1 := ⟨k - 1, by omega⟩
      have hc3 := checkR x hsx hox k (by omega)
      dsimp only
      clear hp cp hc1 hc2 wk cl hlen
      generalize checkT x 1 = c at *
      rw [icall_body rfl Try.func15]
      obtain ⟨lp, hlp⟩ : ∃ lp, lp = lpOf Try.prog cfg (icall Try.prog cfg k) Try.f15.ntmps 15 k (([] : Hp).map (·.1)) := ⟨_, rfl⟩
      rw [← hlp]
      conv => lhs; whnf
      refine nextK_of hc3 ?_
      conv => lhs; whnf
      refine iteK_bne_t h0 ?_
      conv => lhs; whnf
      refine Eq.trans (b := some (Res.ret (AV.tuple [AV.d (D.str []), AV.d (D.int IntKind.i64 c)]), [])) (by kernel_rfl) ?_
      rfl
  generalize printS x (parseS (textS x 1)).2.1 (sameT x (parseS (textS x 1)).1) = r at *
  obtain ⟨rs, re⟩ := r
  simp only [] at cp cq
  generalize checkT x 1 = c at *
  have e1 : (c == c) = true := beq_self_eq_true c
  have e2 : (rs == rs) = true := beq_self_eq_true rs
  have e3 : (re == re) = true := beq_self_eq_true re
  rw [icall_body rfl Try.func4]
  obtain ⟨lp, hlp⟩ : ∃ lp, lp = lpOf Try.prog cfg (icall Try.prog cfg k) Try.f4.ntmps 4 k (([] : Hp).map (·.1)) := ⟨_, rfl⟩
  rw [← hlp]
  conv => lhs; whnf
  refine nextK_b cl (fun h1 => ?_) (fun h1 => ?_)
  · conv => lhs; whnf
    refine nextK_of cp ?_
    conv => lhs; whnf
    refine nextK_of cq ?_
    conv => lhs; whnf
    refine iteO_t (by kernel_rfl) ?_
    conv => lhs; whnf
    refine nextK_of hc1 ?_
    conv => lhs; whnf
    refine nextK_of hc2 ?_
    conv => lhs; whnf
    refine iteK_t e1 ?_
    conv => lhs; whnf
    refine iteK_t e1 ?_
    conv => lhs; whnf
    refine iteK_t e1 ?_
    conv => lhs; whnf
    refine iteK_t e1 ?_
    conv => lhs; whnf
    refine iteK_t e2 ?_
    conv => lhs; whnf
    refine iteK_t e2 ?_
    conv => lhs; whnf
    refine iteK_t e2 ?_
    conv => lhs; whnf
    refine iteK_t e2 ?_
    conv => lhs; whnf
    refine iteK_t e3 ?_
    conv => lhs; whnf
    refine nextK_of wk ?_
    conv => lhs; whnf
    refine iteK_t e3 ?_
    conv => lhs; whnf
    refine iteO_t (by kernel_rfl) ?_
    conv => lhs; whnf
    refine Eq.trans (b := some (Res.ret (AV.d (D.bool true)), [])) (by kernel_rfl) ?_
    rfl
  · conv => lhs; whnf
    refine nextK_of wk ?_
    conv => lhs; whnf
    refine Eq.trans (b := some (Res.ret (AV.d (D.bool true)), [])) (by kernel_rfl) ?_
    rfl
end Go.Rx07
