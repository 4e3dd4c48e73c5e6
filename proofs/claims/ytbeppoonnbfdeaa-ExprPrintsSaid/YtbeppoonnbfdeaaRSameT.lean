/- A part of the proof of the law: what functions of the program come to, walked by Rx, or plain facts on it. -/
import Derived.Test.YtbeppoonnbfdeaaRxCfg07
import Derived.Test.YtbeppoonnbfdeaaRxTree
open Go Go.Rx Go.Proofs Go.Rx07 Go.RxTree
set_option maxRecDepth 1000000
set_option maxHeartbeats 4000000
set_option linter.unusedVariables false
set_option linter.unusedSimpArgs false
namespace Go.Rx07
theorem same12L (j : Nat) (a b : T) (ha : a.kids.length ≤ maxLen) (hlen : a.kids.length = b.kids.length)
    (ih : ∀ x y : T, x ∈ a.kids → icall Try.prog cfg j 12 [x.av, y.av] [] = some (.ret (.d (.bool (sameT x y))), [])) {lp : LP} (hlp : lp = lpOf Try.prog cfg (icall Try.prog cfg j) Try.f12.ntmps 12 j (([] : Hp).map (·.1))) :
    ∀ (m i : Nat) (z : Int)  (lf : Nat) (st : St), (a.kids).length - i = m → i ≤ (a.kids).length → z = (i : Int) → m < lf → prune [] [2, 3, 5] st = some ⟨[(2, .ptr (.slot 2) 0), (3, .ptr (.slot 3) 0), (5, .d (.int .i64 z))], [(.slot 2, .cells [.d (.int .i64 a.kind), .d (.int .i64 a.n), .d (.str a.name), .d (.list (cellsL a.kids))]), (.slot 3, .cells [.d (.int .i64 b.kind), .d (.int .i64 b.n), .d (.str b.name), .d (.list (cellsL b.kids))])]⟩ →
      loopK Try.prog cfg (icall Try.prog cfg j) lp Try.f12.ntmps 12 [] (bodyAt Try.f12 4) lf st (exitP [] (some [4])) = iteK (sameL (a.kids.drop i) (b.kids.drop i)) (some (.exit 0, ⟨[(4, .undef)], []⟩)) (some (.ret, ⟨[(4, .d (.bool false))], []⟩)) := by
  intro m
  induction m with
  | zero =>
    intro i z  lf st hi hle hz  hlf hp
    obtain ⟨lf, rfl⟩ : ∃ n, lf = n + 1 := ⟨lf - 1, by omega⟩
    refine loop_step hp ?_
    have hend : ¬ z < ((cellsL a.kids).length : Int) := by rw [cellsL_len]; omega
    rw [List.drop_eq_nil_of_le (by omega), List.drop_eq_nil_of_le (by omega)]
    conv => lhs; whnf
    refine iteK_dec_f hend ?_
    conv => lhs; whnf
    refine Eq.trans (b := some (Fx.exit (0 : Nat), St.mk [((4 : Nat), AV.undef)] [])) (by kernel_rfl) ?_
    rfl
  | succ m ihm =>
    intro i z  lf st hi hle hz  hlf hp
    obtain ⟨lf, rfl⟩ : ∃ n, lf = n + 1 := ⟨lf - 1, by omega⟩
    refine loop_step hp ?_
    have hend : z < ((cellsL a.kids).length : Int) := by rw [cellsL_len]; omega
    have hx : a.kids[i]? = some a.kids[i] := List.getElem?_eq_getElem (by omega)
    have hy : b.kids[i]? = some (b.kids[i]'(by omega)) := List.getElem?_eq_getElem (by omega)
    generalize a.kids[i] = x at hx
    generalize (b.kids[i]'(by omega)) = y at hy
    rw [sameL_drop hx hy]
    have hc := ih x y (List.mem_of_getElem? hx)
    conv => lhs; whnf
    refine iteK_dec_t hend ?_
    conv => lhs; whnf
    refine iteO_t (by kernel_rfl) ?_
    conv => lhs; whnf
    refine nextK_of (aop_ix rfl rfl rfl rfl (ixL_at' hz (cellsL_get _ _ _ hx) rfl)) ?_
    conv => lhs; whnf
    refine nextK_of (aop_ix rfl rfl rfl rfl (ixL_at' hz (cellsL_get _ _ _ hy) rfl)) ?_
    conv => lhs; whnf
    refine nextK_b hc (fun h1 => ?_) (fun h1 => ?_)
    · conv => lhs; whnf
      refine iteO_t (by kernel_rfl) ?_
      conv => lhs; whnf
      refine Eq.trans (ihm (i + 1) _ lf _ (by omega) (by omega) (wrap_up hz (by omega)) (by omega) rfl) ?_
      (rw [h1, Bool.true_and])
    · conv => lhs; whnf
      refine iteO_t (by kernel_rfl) ?_
      conv => lhs; whnf
      refine Eq.trans (b := some (Fx.ret, St.mk [((4 : Nat), AV.d (D.bool false))] [])) (by kernel_rfl) ?_
      (rw [h1, Bool.false_and]; rfl)
theorem same12 : ∀ (n : Nat) (a b : T), a.wt ≤ n → a.Ok → ∀ k, a.wt < k → icall Try.prog cfg k 12 [a.av, b.av] [] = some (.ret (.d (.bool (sameT a b))), []) := by
  intro n
  induction n with
  | zero => intro a b h; rw [T.wt_eq] at h; omega
  | succ n ihn =>
    intro a b hn ha k hk
    rw [T.ok_eq] at ha
    obtain ⟨_, _, _, ha4, ha5⟩ := ha
    rw [T.wt_eq] at hn hk
    have hwl := wtL_len a.kids
    obtain ⟨k, rfl⟩ : ∃ j, k = j + 1 := ⟨k - 1, by omega⟩
    show icall Try.prog cfg _ _ [.agg [.d (.int .i64 a.kind), .d (.int .i64 a.n), .d (.str a.name), .d (.list (cellsL a.kids))], .agg [.d (.int .i64 b.kind), .d (.int .i64 b.n), .d (.str b.name), .d (.list (cellsL b.kids))]] [] = _
    have ih := fun x y hx => ihn x y (by have := wtL_mem a.kids x hx; omega) (OkL_mem ha5 hx) k (by have := wtL_mem a.kids x hx; omega)
    rw [sameT_eq]
    have la := cellsL_len a.kids
    have lb := cellsL_len b.kids
    by_cases hlen : a.kids.length = b.kids.length
    · rw [icall_body rfl Try.func12]
      obtain ⟨lp, hlp⟩ : ∃ lp, lp = lpOf Try.prog cfg (icall Try.prog cfg k) Try.f12.ntmps 12 k (([] : Hp).map (·.1)) := ⟨_, rfl⟩
      rw [← hlp]
      conv => lhs; whnf
      refine iteK_bne (fun h1 => ?_) (fun h1 => ?_)
      · rw [bne_t h1]
        conv => lhs; whnf
        refine Eq.trans (b := some (Res.ret (AV.d (D.bool false)), [])) (by kernel_rfl) ?_
        (refine ret_b ?_; rw [beq_f (by assumption)]; rfl)
      · rw [bne_f h1]
        conv => lhs; whnf
        refine iteK_bne (fun h2 => ?_) (fun h2 => ?_)
        · rw [bne_t h2]
          conv => lhs; whnf
          refine Eq.trans (b := some (Res.ret (AV.d (D.bool false)), [])) (by kernel_rfl) ?_
          (refine ret_b ?_; rw [beq_t (by assumption), beq_f (by assumption)]; rfl)
        · rw [bne_f h2]
          conv => lhs; whnf
          refine iteK_not ?_
          conv => lhs; whnf
          refine iteK_beq (fun h3 => ?_) (fun h3 => ?_)
          · rw [beq_t h3]
            conv => lhs; whnf
            refine iteK_bne (fun h4 => ?_) (fun h4 => ?_)
            · rw [bne_t h4]
              (exfalso; omega)
            · rw [bne_f h4]
              conv => lhs; whnf
              refine nextK_ite (loop_at hlp (same12L k a b ha4 hlen ih hlp a.kids.length 0 0 k _ rfl (Nat.zero_le _) rfl (by omega) rfl)) ?_
              conv => lhs; whnf
              refine iteK_of (fun h5 => ?_) (fun h5 => ?_)
              · conv => lhs; whnf
                refine Eq.trans (b := some (Res.ret (AV.d (D.bool true)), [])) (by kernel_rfl) ?_
                (refine ret_b ?_; rw [List.drop_zero, List.drop_zero] at h5; simp [*])
              · conv => lhs; whnf
                refine Eq.trans (b := some (Res.ret (AV.d (D.bool false)), [])) (by kernel_rfl) ?_
                (refine ret_b ?_; rw [List.drop_zero, List.drop_zero] at h5; simp [*])
          · rw [beq_f h3]
            conv => lhs; whnf
            refine Eq.trans (b := some (Res.ret (AV.d (D.bool false)), [])) (by kernel_rfl) ?_
            (refine ret_b ?_; simp [*])
    · rw [sameL_len hlen]
      rw [icall_body rfl Try.func12]
      obtain ⟨lp, hlp⟩ : ∃ lp, lp = lpOf Try.prog cfg (icall Try.prog cfg k) Try.f12.ntmps 12 k (([] : Hp).map (·.1)) := ⟨_, rfl⟩
      rw [← hlp]
      conv => lhs; whnf
      refine iteK_bne (fun h1 => ?_) (fun h1 => ?_)
      · rw [bne_t h1]
        conv => lhs; whnf
        refine Eq.trans (b := some (Res.ret (AV.d (D.bool false)), [])) (by kernel_rfl) ?_
        (refine ret_b ?_; simp)
      · rw [bne_f h1]
        conv => lhs; whnf
        refine iteK_bne (fun h2 => ?_) (fun h2 => ?_)
        · rw [bne_t h2]
          conv => lhs; whnf
          refine Eq.trans (b := some (Res.ret (AV.d (D.bool false)), [])) (by kernel_rfl) ?_
          (refine ret_b ?_; simp)
        · rw [bne_f h2]
          conv => lhs; whnf
          refine iteK_not ?_
          conv => lhs; whnf
          refine iteK_beq (fun h3 => ?_) (fun h3 => ?_)
          · rw [beq_t h3]
            conv => lhs; whnf
            refine iteK_bne (fun h4 => ?_) (fun h4 => ?_)
            · rw [bne_t h4]
              conv => lhs; whnf
              refine Eq.trans (b := some (Res.ret (AV.d (D.bool false)), [])) (by kernel_rfl) ?_
              (refine ret_b ?_; simp)
            · rw [bne_f h4]
              (exfalso; omega)
          · rw [beq_f h3]
            conv => lhs; whnf
            refine Eq.trans (b := some (Res.ret (AV.d (D.bool false)), [])) (by kernel_rfl) ?_
            (refine ret_b ?_; simp)
theorem same18L (j : Nat) (a b : T) (ha : a.kids.length ≤ maxLen) (hlen : a.kids.length = b.kids.length)
    (ih : ∀ x y : T, x ∈ a.kids → icall Try.prog cfg j 18 [x.av, y.av] [] = some (.ret (.d (.bool (sameT x y))), [])) {lp : LP} (hlp : lp = lpOf Try.prog cfg (icall Try.prog cfg j) Try.f18.ntmps 18 j (([] : Hp).map (·.1))) :
    ∀ (m i : Nat) (z : Int)  (lf : Nat) (st : St), (a.kids).length - i = m → i ≤ (a.kids).length → z = (i : Int) → m < lf → prune [] [2, 3, 36, 37] st = some ⟨[(2, .ptr (.slot 2) 0), (3, .ptr (.slot 3) 0), (36, .d (.int .i64 (cellsL a.kids).length)), (37, .d (.int .i64 z))], [(.slot 2, .cells [.d (.int .i64 a.kind), .d (.int .i64 a.n), .d (.str a.name), .d (.list (cellsL a.kids))]), (.slot 3, .cells [.d (.int .i64 b.kind), .d (.int .i64 b.n), .d (.str b.name), .d (.list (cellsL b.kids))])]⟩ →
      loopK Try.prog cfg (icall Try.prog cfg j) lp Try.f18.ntmps 18 [] (bodyAt Try.f18 4) lf st (exitP [] (some [4])) = iteK (sameL (a.kids.drop i) (b.kids.drop i)) (some (.exit 0, ⟨[(4, .undef)], []⟩)) (some (.ret, ⟨[(4, .d (.bool false))], []⟩)) := by
  intro m
  induction m with
  | zero =>
    intro i z  lf st hi hle hz  hlf hp
    obtain ⟨lf, rfl⟩ : ∃ n, lf = n + 1 := ⟨lf - 1, by omega⟩
    refine loop_step hp ?_
    have hend : ¬ z < ((cellsL a.kids).length : Int) := by rw [cellsL_len]; omega
    rw [List.drop_eq_nil_of_le (by omega), List.drop_eq_nil_of_le (by omega)]
    conv => lhs; whnf
    refine iteK_dec_f hend ?_
    conv => lhs; whnf
    refine Eq.trans (b := some (Fx.exit (0 : Nat), St.mk [((4 : Nat), AV.undef)] [])) (by kernel_rfl) ?_
    rfl
  | succ m ihm =>
    intro i z  lf st hi hle hz  hlf hp
    obtain ⟨lf, rfl⟩ : ∃ n, lf = n + 1 := ⟨lf - 1, by omega⟩
    refine loop_step hp ?_
    have hend : z < ((cellsL a.kids).length : Int) := by rw [cellsL_len]; omega
    have hx : a.kids[i]? = some a.kids[i] := List.getElem?_eq_getElem (by omega)
    have hy : b.kids[i]? = some (b.kids[i]'(by omega)) := List.getElem?_eq_getElem (by omega)
    generalize a.kids[i] = x at hx
    generalize (b.kids[i]'(by omega)) = y at hy
    rw [sameL_drop hx hy]
    have hc := ih x y (List.mem_of_getElem? hx)
    conv => lhs; whnf
    refine iteK_dec_t hend ?_
    conv => lhs; whnf
    refine iteO_t (by kernel_rfl) ?_
    conv => lhs; whnf
    refine nextK_of (aop_ix rfl rfl rfl rfl (ixL_at' hz (cellsL_get _ _ _ hx) rfl)) ?_
    conv => lhs; whnf
    refine nextK_of (aop_ix rfl rfl rfl rfl (ixL_at' hz (cellsL_get _ _ _ hy) rfl)) ?_
    conv => lhs; whnf
    refine nextK_b hc (fun h1 => ?_) (fun h1 => ?_)
    · conv => lhs; whnf
      refine iteO_t (by kernel_rfl) ?_
      conv => lhs; whnf
      refine Eq.trans (ihm (i + 1) _ lf _ (by omega) (by omega) (wrap_up hz (by omega)) (by omega) rfl) ?_
      (rw [h1, Bool.true_and])
    · conv => lhs; whnf
      refine iteO_t (by kernel_rfl) ?_
      conv => lhs; whnf
      refine Eq.trans (b := some (Fx.ret, St.mk [((4 : Nat), AV.d (D.bool false))] [])) (by kernel_rfl) ?_
      (rw [h1, Bool.false_and]; rfl)
theorem same18 : ∀ (n : Nat) (a b : T), a.wt ≤ n → a.Ok → ∀ k, a.wt < k → icall Try.prog cfg k 18 [a.av, b.av] [] = some (.ret (.d (.bool (sameT a b))), []) := by
  intro n
  induction n with
  | zero => intro a b h; rw [T.wt_eq] at h; omega
  | succ n ihn =>
    intro a b hn ha k hk
    rw [T.ok_eq] at ha
    obtain ⟨_, _, _, ha4, ha5⟩ := ha
    rw [T.wt_eq] at hn hk
    have hwl := wtL_len a.kids
    obtain ⟨k, rfl⟩ : ∃ j, k = j + 1 := ⟨k - 1, by omega⟩
    show icall Try.prog cfg _ _ [.agg [.d (.int .i64 a.kind), .d (.int .i64 a.n), .d (.str a.name), .d (.list (cellsL a.kids))], .agg [.d (.int .i64 b.kind), .d (.int .i64 b.n), .d (.str b.name), .d (.list (cellsL b.kids))]] [] = _
    have ih := fun x y hx => ihn x y (by have := wtL_mem a.kids x hx; omega) (OkL_mem ha5 hx) k (by have := wtL_mem a.kids x hx; omega)
    rw [sameT_eq]
    have la := cellsL_len a.kids
    have lb := cellsL_len b.kids
    by_cases hlen : a.kids.length = b.kids.length
    · rw [icall_body rfl Try.func18]
      obtain ⟨lp, hlp⟩ : ∃ lp, lp = lpOf Try.prog cfg (icall Try.prog cfg k) Try.f18.ntmps 18 k (([] : Hp).map (·.1)) := ⟨_, rfl⟩
      rw [← hlp]
      conv => lhs; whnf
      refine iteK_bne (fun h1 => ?_) (fun h1 => ?_)
      · rw [bne_t h1]
        conv => lhs; whnf
        refine Eq.trans (b := some (Res.ret (AV.d (D.bool false)), [])) (by kernel_rfl) ?_
        (refine ret_b ?_; rw [beq_f (by assumption)]; rfl)
      · rw [bne_f h1]
        conv => lhs; whnf
        refine iteK_bne (fun h2 => ?_) (fun h2 => ?_)
        · rw [bne_t h2]
          conv => lhs; whnf
          refine Eq.trans (b := some (Res.ret (AV.d (D.bool false)), [])) (by kernel_rfl) ?_
          (refine ret_b ?_; rw [beq_t (by assumption), beq_f (by assumption)]; rfl)
        · rw [bne_f h2]
          conv => lhs; whnf
          refine iteK_not ?_
          conv => lhs; whnf
          refine iteK_beq (fun h3 => ?_) (fun h3 => ?_)
          · rw [beq_t h3]
            conv => lhs; whnf
            refine iteK_bne (fun h4 => ?_) (fun h4 => ?_)
            · rw [bne_t h4]
              (exfalso; omega)
            · rw [bne_f h4]
              conv => lhs; whnf
              refine nextK_ite (loop_at hlp (same18L k a b ha4 hlen ih hlp a.kids.length 0 0 k _ rfl (Nat.zero_le _) rfl (by omega) rfl)) ?_
              conv => lhs; whnf
              refine iteK_of (fun h5 => ?_) (fun h5 => ?_)
              · conv => lhs; whnf
                refine Eq.trans (b := some (Res.ret (AV.d (D.bool true)), [])) (by kernel_rfl) ?_
                (refine ret_b ?_; rw [List.drop_zero, List.drop_zero] at h5; simp [*])
              · conv => lhs; whnf
                refine Eq.trans (b := some (Res.ret (AV.d (D.bool false)), [])) (by kernel_rfl) ?_
                (refine ret_b ?_; rw [List.drop_zero, List.drop_zero] at h5; simp [*])
          · rw [beq_f h3]
            conv => lhs; whnf
            refine Eq.trans (b := some (Res.ret (AV.d (D.bool false)), [])) (by kernel_rfl) ?_
            (refine ret_b ?_; simp [*])
    · rw [sameL_len hlen]
      rw [icall_body rfl Try.func18]
      obtain ⟨lp, hlp⟩ : ∃ lp, lp = lpOf Try.prog cfg (icall Try.prog cfg k) Try.f18.ntmps 18 k (([] : Hp).map (·.1)) := ⟨_, rfl⟩
      rw [← hlp]
      conv => lhs; whnf
      refine iteK_bne (fun h1 => ?_) (fun h1 => ?_)
      · rw [bne_t h1]
        conv => lhs; whnf
        refine Eq.trans (b := some (Res.ret (AV.d (D.bool false)), [])) (by kernel_rfl) ?_
        (refine ret_b ?_; simp)
      · rw [bne_f h1]
        conv => lhs; whnf
        refine iteK_bne (fun h2 => ?_) (fun h2 => ?_)
        · rw [bne_t h2]
          conv => lhs; whnf
          refine Eq.trans (b := some (Res.ret (AV.d (D.bool false)), [])) (by kernel_rfl) ?_
          (refine ret_b ?_; simp)
        · rw [bne_f h2]
          conv => lhs; whnf
          refine iteK_not ?_
          conv => lhs; whnf
          refine iteK_beq (fun h3 => ?_) (fun h3 => ?_)
          · rw [beq_t h3]
            conv => lhs; whnf
            refine iteK_bne (fun h4 => ?_) (fun h4 => ?_)
            · rw [bne_t h4]
              conv => lhs; whnf
              refine Eq.trans (b := some (Res.ret (AV.d (D.bool false)), [])) (by kernel_rfl) ?_
              (refine ret_b ?_; simp)
            · rw [bne_f h4]
              (exfalso; omega)
          · rw [beq_f h3]
            conv => lhs; whnf
            refine Eq.trans (b := some (Res.ret (AV.d (D.bool false)), [])) (by kernel_rfl) ?_
            (refine ret_b ?_; simp)
end Go.Rx07
