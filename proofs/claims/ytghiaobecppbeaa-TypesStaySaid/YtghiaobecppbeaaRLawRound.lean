/- A part of the proof of the law: what functions of the program come to, walked by Rx, or plain facts on it. -/
import Derived.Test.YtghiaobecppbeaaRRen
open Go Go.Rx Go.Proofs Go.Rx08 Go.RxTree
set_option maxRecDepth 1000000
set_option maxHeartbeats 4000000
set_option linter.unusedVariables false
set_option linter.unusedSimpArgs false
namespace Go.Rx08
/-- What renaming comes to: the tree, and what is wrong. -/
def renP (a b : List UInt8) (t : T) : T × Int := if checkT t 1 ≠ 0 then (.mk 0 0 [] [], checkT t 1) else if checkT (.mk 2 0 b []) 1 ≠ 0 then (.mk 0 0 [] [], checkT (.mk 2 0 b []) 1) else (renT a b t, 0)
theorem check38v (b : List UInt8) (hb : b.length ≤ 140737488351232) (k : Nat) (hk : b.length + 20 < k) : icall Try.prog cfg k 24 [.agg [.d (.int .i64 2), .d (.int .i64 0), .d (.str b), .d (.list [])]] [] = some (.ret (.d (.int .i64 (checkT (.mk 2 0 b []) 1))), []) :=
  check38 (.mk 2 0 b []) ⟨hb, trivial⟩ ⟨by decide, by decide, by unfold maxLen; show b.length ≤ _; omega, by simp, trivial⟩ k (by simp [T.wt, wtL]; omega)
theorem rename13 (a b : List UInt8) (t : T) (hf : t.Few) (ho : t.Ok) (hb : b.length ≤ 140737488351232) (k : Nat) (hk : t.wt + b.length + 22 < k) : icall Try.prog cfg k 13 [t.av, .d (.str a), .d (.str b)] [] = some (.ret (.tuple [(renP a b t).1.av, .d (.int .i64 (renP a b t).2)]), []) := by
  obtain ⟨k, rfl⟩ : ∃ j, k = j + 1 := ⟨k - 1, by omega⟩
  show icall Try.prog cfg _ _ [.agg [.d (.int .i64 t.kind), .d (.int .i64 t.n), .d (.str t.name), .d (.list (cellsL t.kids))], _, _] [] = _
  have c1 := check38 t (few_sm t hf) ho k (by omega)
  have c2 := check38v b hb k (by omega)
  have c3 := ren29 a b t.wt t (Nat.le_refl _) hf k (by omega)
  unfold renP
  generalize checkT (.mk 2 0 b []) 1 = e2 at c2
  generalize checkT t 1 = e1 at c1
  rw [icall_body rfl Try.func13]
  obtain ⟨lp, hlp⟩ : ∃ lp, lp = lpOf Try.prog cfg (icall Try.prog cfg k) Try.f13.ntmps 13 k (([] : Hp).map (·.1)) := ⟨_, rfl⟩
  rw [← hlp]
  conv => lhs; whnf
  refine nextK_of c1 ?_
  conv => lhs; whnf
  refine iteK_bne (fun h1 => ?_) (fun h1 => ?_)
  · rw [bne_t h1]
    conv => lhs; whnf
    refine Eq.trans (b := some (Res.ret (AV.tuple [AV.agg [AV.d (D.int IntKind.i64 (0 : Int)), AV.d (D.int IntKind.i64 (0 : Int)), AV.d (D.str []), AV.d (D.list [])], AV.d (D.int IntKind.i64 e1)]), [])) (by kernel_rfl) ?_
    (rw [if_pos (by assumption)]; rfl)
  · obtain rfl : e1 = (0 : Int) := h1
    conv => lhs; whnf
    refine nextK_of c2 ?_
    conv => lhs; whnf
    refine iteK_bne (fun h2 => ?_) (fun h2 => ?_)
    · rw [bne_t h2]
      conv => lhs; whnf
      refine Eq.trans (b := some (Res.ret (AV.tuple [AV.agg [AV.d (D.int IntKind.i64 (0 : Int)), AV.d (D.int IntKind.i64 (0 : Int)), AV.d (D.str []), AV.d (D.list [])], AV.d (D.int IntKind.i64 e2)]), [])) (by kernel_rfl) ?_
      (rw [if_neg (by omega), if_pos (by assumption)]; rfl)
    · obtain rfl : e2 = (0 : Int) := h2
      conv => lhs; whnf
      refine nextK_of c3 ?_
      conv => lhs; whnf
      refine Eq.trans (b := some (Res.ret (AV.tuple [AV.agg [AV.d (D.int IntKind.i64 (T.kind (renT a b t))), AV.d (D.int IntKind.i64 (T.n (renT a b t))), AV.d (D.str (T.name (renT a b t))), AV.d (D.list (cellsL (T.kids (renT a b t))))], AV.d (D.int IntKind.i64 (0 : Int))]), [])) (by kernel_rfl) ?_
      (rw [if_neg (by omega), if_neg (by omega)]; rfl)
theorem renP_0 {a b : List UInt8} {t y : T} (h : renP a b t = (y, 0)) : checkT t 1 = 0 ∧ textOk 2 b = true ∧ y = renT a b t := by
  unfold renP at h
  by_cases h1 : checkT t 1 = 0
  · rw [if_neg (by omega)] at h
    by_cases h2 : checkT (.mk 2 0 b []) 1 = 0
    · rw [if_neg (by omega)] at h
      injection h with h3 h4
      refine ⟨h1, ?_, h3.symm⟩
      rw [var_check] at h2
      by_cases h5 : textOk 2 b = true
      · exact h5
      · rw [if_neg h5] at h2; cases h2
    · rw [if_pos h2] at h; injection h with h3 h4; exact absurd h4 h2
  · rw [if_pos h1] at h; injection h with h3 h4; exact absurd h4 h1
theorem textOk_len {b : List UInt8} (h : textOk 2 b = true) : b.length ≤ 50000 := by
  rw [textOk_v] at h
  simp only [Bool.and_eq_true, nameOk, decide_eq_true_eq] at h
  omega
theorem round_eq {a b : List UInt8} {t y : T} (h : renP a b t = (y, 0)) (hq : asksT b t = false) : renP b a y = (t, 0) ∨ ((renP b a y).2 ≠ 0 ∧ asksT a t = false) := by
  obtain ⟨h1, h2, rfl⟩ := renP_0 h
  have hc := ren_check (a := a) h2 t 1 h1
  unfold renP
  rw [if_neg (by omega), ren_back t hq, var_check]
  by_cases h3 : textOk 2 a = true
  · left; rw [if_pos h3, if_neg (by simp)]
  · right
    rw [if_neg h3, if_pos (by simp)]
    refine ⟨by simp, ?_⟩
    cases h4 : asksT a t
    · rfl
    · exact absurd (asks_ok t 1 h1 h4) h3
theorem law8 (x : T) (ox : x.Ok) (sx : x.Sm) (a : List UInt8) (oa : a.length ≤ maxLen) (sa : a.length ≤ 140737488351232) (b : List UInt8) (ob : b.length ≤ maxLen) (sb : b.length ≤ 140737488351232) (k : Nat) (hk : x.wt + (renT a b x).wt + a.length + b.length + 60 < k) : icall Try.prog cfg k 8 [x.av, .d (.str a), .d (.str b)] [] = some (.ret (.d (.bool true)), []) := by
  obtain ⟨k, rfl⟩ : ∃ j, k = j + 1 := ⟨k - 1, by omega⟩
  have wk := works10 k (by omega)
  have c0 := light9 x ox k (by omega)
  have c1 := asks21 b x ox k (by omega)
  have c2 := asks21 a x ox k (by omega)
  show icall Try.prog cfg _ _ [.agg [.d (.int .i64 x.kind), .d (.int .i64 x.n), .d (.str x.name), .d (.list (cellsL x.kids))], _, _] [] = _
  by_cases hl : weighT x 500 30 ≤ 500
  · rw [dec_t hl] at c0
    have hf := weighT_few x 500 30 ox (by omega) (by omega) hl
    have c3 := rename13 a b x hf ox sb k (by omega)
    have hr := @round_eq a b x
    obtain ⟨y, hy⟩ : ∃ y, y = renP a b x := ⟨_, rfl⟩
    obtain ⟨y, e⟩ := y
    rw [← hy] at c3 hr
    by_cases he : e = 0
    · subst he
      obtain ⟨g1, g2, g3⟩ := renP_0 hy.symm
      have hyf : y.Few := by rw [g3]; exact ren_few (textOk_len g2) x hf
      have hyo : y.Ok := by rw [g3]; exact ren_ok ob x ox
      have c4 := rename13 b a y hyf hyo sa k (by rw [g3]; omega)
      cases hq : asksT b x
      · rw [hq] at c1
        rcases hr rfl hq with hr | hr
        · rw [hr] at c4
          have c5 := same15 x.wt x x (Nat.le_refl _) ox k (by omega)
          rw [sameT_refl] at c5
          rw [icall_body rfl Try.func8]
          obtain ⟨lp, hlp⟩ : ∃ lp, lp = lpOf Try.prog cfg (icall Try.prog cfg k) Try.f8.ntmps 8 k (([] : Hp).map (·.1)) := ⟨_, rfl⟩
          rw [← hlp]
          conv => lhs; whnf
          refine nextK_of c0 ?_
          conv => lhs; whnf
          refine iteK_dec (fun h1 => ?_) (fun h1 => ?_)
          · rw [dec_t h1]
            conv => lhs; whnf
            refine nextK_of wk ?_
            conv => lhs; whnf
            refine Eq.trans (b := some (Res.ret (AV.d (D.bool true)), [])) (by kernel_rfl) ?_
            rfl
          · rw [dec_f h1]
            conv => lhs; whnf
            refine iteK_dec (fun h2 => ?_) (fun h2 => ?_)
            · rw [dec_t h2]
              conv => lhs; whnf
              refine nextK_of wk ?_
              conv => lhs; whnf
              refine Eq.trans (b := some (Res.ret (AV.d (D.bool true)), [])) (by kernel_rfl) ?_
              rfl
            · rw [dec_f h2]
              conv => lhs; whnf
              refine nextK_of c1 ?_
              conv => lhs; whnf
              refine nextK_of c3 ?_
              conv => lhs; whnf
              refine nextK_of c4 ?_
              conv => lhs; whnf
              refine nextK_of c5 ?_
              conv => lhs; whnf
              refine nextK_of wk ?_
              conv => lhs; whnf
              refine Eq.trans (b := some (Res.ret (AV.d (D.bool true)), [])) (by kernel_rfl) ?_
              rfl
        · obtain ⟨hr1, hr2⟩ := hr
          rw [hr2] at c2
          generalize renP b a y = v at c4 hr1
          rw [icall_body rfl Try.func8]
          obtain ⟨lp, hlp⟩ : ∃ lp, lp = lpOf Try.prog cfg (icall Try.prog cfg k) Try.f8.ntmps 8 k (([] : Hp).map (·.1)) := ⟨_, rfl⟩
          rw [← hlp]
          conv => lhs; whnf
          refine nextK_of c0 ?_
          conv => lhs; whnf
          refine iteK_dec (fun h1 => ?_) (fun h1 => ?_)
          · rw [dec_t h1]
            conv => lhs; whnf
            refine nextK_of wk ?_
            conv => lhs; whnf
            refine Eq.trans (b := some (Res.ret (AV.d (D.bool true)), [])) (by kernel_rfl) ?_
            rfl
          · rw [dec_f h1]
            conv => lhs; whnf
            refine iteK_dec (fun h2 => ?_) (fun h2 => ?_)
            · rw [dec_t h2]
              conv => lhs; whnf
              refine nextK_of wk ?_
              conv => lhs; whnf
              refine Eq.trans (b := some (Res.ret (AV.d (D.bool true)), [])) (by kernel_rfl) ?_
              rfl
            · rw [dec_f h2]
              conv => lhs; whnf
              refine nextK_of c1 ?_
              conv => lhs; whnf
              refine nextK_of c3 ?_
              conv => lhs; whnf
              refine nextK_of c4 ?_
              conv => lhs; whnf
              refine iteK_bne_t hr1 ?_
              conv => lhs; whnf
              refine nextK_of c2 ?_
              conv => lhs; whnf
              refine nextK_of wk ?_
              conv => lhs; whnf
              refine Eq.trans (b := some (Res.ret (AV.d (D.bool true)), [])) (by kernel_rfl) ?_
              rfl
      · rw [hq] at c1
        rw [icall_body rfl Try.func8]
        obtain ⟨lp, hlp⟩ : ∃ lp, lp = lpOf Try.prog cfg (icall Try.prog cfg k) Try.f8.ntmps 8 k (([] : Hp).map (·.1)) := ⟨_, rfl⟩
        rw [← hlp]
        conv => lhs; whnf
        refine nextK_of c0 ?_
        conv => lhs; whnf
        refine iteK_dec (fun h1 => ?_) (fun h1 => ?_)
        · rw [dec_t h1]
          conv => lhs; whnf
          refine nextK_of wk ?_
          conv => lhs; whnf
          refine Eq.trans (b := some (Res.ret (AV.d (D.bool true)), [])) (by kernel_rfl) ?_
          rfl
        · rw [dec_f h1]
          conv => lhs; whnf
          refine iteK_dec (fun h2 => ?_) (fun h2 => ?_)
          · rw [dec_t h2]
            conv => lhs; whnf
            refine nextK_of wk ?_
            conv => lhs; whnf
            refine Eq.trans (b := some (Res.ret (AV.d (D.bool true)), [])) (by kernel_rfl) ?_
            rfl
          · rw [dec_f h2]
            conv => lhs; whnf
            refine nextK_of c1 ?_
            conv => lhs; whnf
            refine nextK_of wk ?_
            conv => lhs; whnf
            refine Eq.trans (b := some (Res.ret (AV.d (D.bool true)), [])) (by kernel_rfl) ?_
            rfl
    · rw [icall_body rfl Try.func8]
      obtain ⟨lp, hlp⟩ : ∃ lp, lp = lpOf Try.prog cfg (icall Try.prog cfg k) Try.f8.ntmps 8 k (([] : Hp).map (·.1)) := ⟨_, rfl⟩
      rw [← hlp]
      conv => lhs; whnf
      refine nextK_of c0 ?_
      conv => lhs; whnf
      refine iteK_dec (fun h1 => ?_) (fun h1 => ?_)
      · rw [dec_t h1]
        conv => lhs; whnf
        refine nextK_of wk ?_
        conv => lhs; whnf
        refine Eq.trans (b := some (Res.ret (AV.d (D.bool true)), [])) (by kernel_rfl) ?_
        rfl
      · rw [dec_f h1]
        conv => lhs; whnf
        refine iteK_dec (fun h2 => ?_) (fun h2 => ?_)
        · rw [dec_t h2]
          conv => lhs; whnf
          refine nextK_of wk ?_
          conv => lhs; whnf
          refine Eq.trans (b := some (Res.ret (AV.d (D.bool true)), [])) (by kernel_rfl) ?_
          rfl
        · rw [dec_f h2]
          conv => lhs; whnf
          refine nextK_b c1 (fun h3 => ?_) (fun h3 => ?_)
          · conv => lhs; whnf
            refine nextK_of wk ?_
            conv => lhs; whnf
            refine Eq.trans (b := some (Res.ret (AV.d (D.bool true)), [])) (by kernel_rfl) ?_
            rfl
          · conv => lhs; whnf
            refine nextK_of c3 ?_
            conv => lhs; whnf
            refine iteK_bne_t he ?_
            conv => lhs; whnf
            refine nextK_of wk ?_
            conv => lhs; whnf
            refine Eq.trans (b := some (Res.ret (AV.d (D.bool true)), [])) (by kernel_rfl) ?_
            rfl
  · rw [dec_f hl] at c0
    rw [icall_body rfl Try.func8]
    obtain ⟨lp, hlp⟩ : ∃ lp, lp = lpOf Try.prog cfg (icall Try.prog cfg k) Try.f8.ntmps 8 k (([] : Hp).map (·.1)) := ⟨_, rfl⟩
    rw [← hlp]
    conv => lhs; whnf
    refine nextK_of c0 ?_
    conv => lhs; whnf
    refine nextK_of wk ?_
    conv => lhs; whnf
    refine Eq.trans (b := some (Res.ret (AV.d (D.bool true)), [])) (by kernel_rfl) ?_
    rfl
end Go.Rx08
