/- A part of the proof of the law: what functions of the program come to, walked by Rx, or plain facts on it. -/
import Derived.Test.YtaghcidejnhahaaRxCfg12
import Derived.Test.YtaghcidejnhahaaRSpecA
open Go Go.Rx Go.Proofs Go.Rx12 Go.RxTree
set_option maxRecDepth 1000000
set_option maxHeartbeats 4000000
set_option linter.unusedVariables false
set_option linter.unusedSimpArgs false
namespace Go.Rx12
theorem loop30 (s : List UInt8) (j : Nat) {lp : LP} (hl : lp = lpOf Try.prog cfg (icall Try.prog cfg j) Try.f40.ntmps 40 j (([] : Hp).map (·.1))) (hm : s.length ≤ lim) :
    ∀ (m i : Nat) (z : Int) (lf : Nat) (st : St), s.length - i = m → i ≤ s.length → z = (i : Int) → m < lf → prune [] [0, 7, 8, 9] st = some ⟨[(0, .d (.str s)), (7, .d (.list (bL s))), (8, .d (.int .i64 (bL s).length)), (9, .d (.int .i64 z))], []⟩ →
      loopK Try.prog cfg (icall Try.prog cfg j) lp Try.f40.ntmps 40 [] (bodyAt Try.f40 2) lf st (exitP [] (some [0, 2])) =
        iteK (nameL i (s.drop i)) (some (.exit 0, ⟨[(0, .d (.str s)), (2, .undef)], []⟩)) (some (.ret, ⟨[(0, .d (.str s)), (2, .d (.bool false))], []⟩)) := by
  intro m
  induction m with
  | zero =>
    intro i z lf st hi hle hz hlf hp
    obtain ⟨n, rfl⟩ : ∃ n, lf = n + 1 := ⟨lf - 1, by omega⟩
    refine loop_step hp ?_
    have hend : ¬ z < ((bL s).length : Int) := by rw [bL_len]; omega
    rw [List.drop_eq_nil_of_le (by omega)]
    conv => lhs; whnf
    refine iteK_dec_f hend ?_
    conv => lhs; whnf
    refine Eq.trans (b := some (Fx.exit (0 : Nat), St.mk [((0 : Nat), AV.d (D.str s)), ((2 : Nat), AV.undef)] [])) (by kernel_rfl) ?_
    rfl
  | succ m ihm =>
    intro i z lf st hi hle hz hlf hp
    obtain ⟨n, rfl⟩ : ∃ n, lf = n + 1 := ⟨lf - 1, by omega⟩
    refine loop_step hp ?_
    have hend : z < ((bL s).length : Int) := by rw [bL_len]; omega
    have hx : s[i]? = some s[i] := List.getElem?_eq_getElem (by omega)
    generalize s[i] = b at hx
    rw [nameL_drop hx]
    have hi0 : z = 0 ↔ i = 0 := by omega
    have hlm : lim < maxLen := by decide
    conv => lhs; whnf
    refine iteK_dec_t hend ?_
    conv => lhs; whnf
    refine nextK_of (aop_ix rfl rfl rfl rfl (ixL_at' hz (bL_get hx) rfl)) ?_
    conv => lhs; whnf
    refine iteK_dec (fun h1 => ?_) (fun h1 => ?_)
    · rw [dec_t h1]
      conv => lhs; whnf
      refine iteK_not ?_
      conv => lhs; whnf
      refine iteK_dec (fun h2 => ?_) (fun h2 => ?_)
      · rw [dec_t h2]
        conv => lhs; whnf
        refine Eq.trans (ihm (i + 1) _ n _ (by omega) (by omega) (wrap_up hz (by omega)) (by omega) rfl) ?_
        (rw [show (letB b || (i != 0 && digB b)) = true by simp [letB, digB]; omega]; rfl)
      · rw [dec_f h2]
        conv => lhs; whnf
        refine iteK_beq (fun h3 => ?_) (fun h3 => ?_)
        · obtain rfl : z = (0 : Int) := h3
          conv => lhs; whnf
          refine Eq.trans (b := some (Fx.ret, St.mk [((0 : Nat), AV.d (D.str s)), ((2 : Nat), AV.d (D.bool false))] [])) (by kernel_rfl) ?_
          exact (iteK_f (by simp [letB, digB]; omega) rfl).symm
        · rw [beq_f h3]
          conv => lhs; whnf
          refine iteK_dec (fun h4 => ?_) (fun h4 => ?_)
          · rw [dec_t h4]
            (exfalso; omega)
          · rw [dec_f h4]
            conv => lhs; whnf
            refine iteK_dec (fun h5 => ?_) (fun h5 => ?_)
            · rw [dec_t h5]
              conv => lhs; whnf
              refine Eq.trans (b := some (Fx.ret, St.mk [((0 : Nat), AV.d (D.str s)), ((2 : Nat), AV.d (D.bool false))] [])) (by kernel_rfl) ?_
              exact (iteK_f (by simp [letB, digB]; omega) rfl).symm
            · rw [dec_f h5]
              (exfalso; omega)
    · rw [dec_f h1]
      conv => lhs; whnf
      refine iteK_beq (fun h2 => ?_) (fun h2 => ?_)
      · obtain rfl : z = (0 : Int) := h2
        conv => lhs; whnf
        refine Eq.trans (b := some (Fx.ret, St.mk [((0 : Nat), AV.d (D.str s)), ((2 : Nat), AV.d (D.bool false))] [])) (by kernel_rfl) ?_
        exact (iteK_f (by simp [letB, digB]; omega) rfl).symm
      · rw [beq_f h2]
        conv => lhs; whnf
        refine iteK_dec (fun h3 => ?_) (fun h3 => ?_)
        · rw [dec_t h3]
          conv => lhs; whnf
          refine Eq.trans (b := some (Fx.ret, St.mk [((0 : Nat), AV.d (D.str s)), ((2 : Nat), AV.d (D.bool false))] [])) (by kernel_rfl) ?_
          exact (iteK_f (by simp [letB, digB]; omega) rfl).symm
        · rw [dec_f h3]
          conv => lhs; whnf
          refine iteK_dec (fun h4 => ?_) (fun h4 => ?_)
          · rw [dec_t h4]
            conv => lhs; whnf
            refine Eq.trans (b := some (Fx.ret, St.mk [((0 : Nat), AV.d (D.str s)), ((2 : Nat), AV.d (D.bool false))] [])) (by kernel_rfl) ?_
            exact (iteK_f (by simp [letB, digB]; omega) rfl).symm
          · rw [dec_f h4]
            conv => lhs; whnf
            refine Eq.trans (ihm (i + 1) _ n _ (by omega) (by omega) (wrap_up hz (by omega)) (by omega) rfl) ?_
            (rw [show (letB b || (i != 0 && digB b)) = true by simp [letB, digB]; omega]; rfl)
theorem packName_w (s : List UInt8) (hm : s.length ≤ lim) (k : Nat) (hk : s.length + 1 < k) : icall Try.prog cfg k 40 [.d (.str s)] [] = some (.ret (.d (.bool (nameOk s))), []) := by
  obtain ⟨k, rfl⟩ : ∃ j, k = j + 1 := ⟨k - 1, by omega⟩
  rw [icall_body rfl Try.func40]
  obtain ⟨lp, hlp⟩ : ∃ lp, lp = lpOf Try.prog cfg (icall Try.prog cfg k) Try.f40.ntmps 40 k (([] : Hp).map (·.1)) := ⟨_, rfl⟩
  rw [← hlp]
  conv => lhs; whnf
  refine nextK_of (aop_bytes rfl rfl rfl rfl hm) ?_
  conv => lhs; whnf
  refine nextK_ite (loop_at hlp (loop30 s k hlp hm s.length 0 0 k _ rfl (Nat.zero_le _) rfl (by omega) rfl)) ?_
  conv => lhs; whnf
  refine iteK_of (fun h1 => ?_) (fun h1 => ?_)
  · conv => lhs; whnf
    refine iteK_dec (fun h2 => ?_) (fun h2 => ?_)
    · rw [dec_t h2]
      conv => lhs; whnf
      refine Eq.trans (b := some (Res.ret (AV.d (D.bool (decide (↑(List.length s) ≤ (32 : Int))))), [])) (by kernel_rfl) ?_
      (rw [List.drop_zero] at h1; rw [show nameOk s = decide ((s.length : Int) ≤ 32) by simp only [nameOk, h1, Bool.and_true]; rw [dec_t (show 1 ≤ s.length by omega), Bool.true_and]; exact decide_eq_decide.2 (by omega)])
    · rw [dec_f h2]
      conv => lhs; whnf
      refine Eq.trans (b := some (Res.ret (AV.d (D.bool false)), [])) (by kernel_rfl) ?_
      (simp [nameOk]; omega)
  · conv => lhs; whnf
    refine Eq.trans (b := some (Res.ret (AV.d (D.bool false)), [])) (by kernel_rfl) ?_
    (rw [List.drop_zero] at h1; simp [nameOk, h1])
theorem loop33 (s : List UInt8) (j : Nat) {lp : LP} (hl : lp = lpOf Try.prog cfg (icall Try.prog cfg j) Try.f34.ntmps 34 j (([] : Hp).map (·.1))) (hm : s.length ≤ lim) :
    ∀ (m i : Nat) (z : Int) (lf : Nat) (st : St), s.length - i = m → i ≤ s.length → z = (i : Int) → m < lf → prune [] [0, 3] st = some ⟨[(0, .d (.str s)), (3, .d (.int .i64 z))], []⟩ →
      loopK Try.prog cfg (icall Try.prog cfg j) lp Try.f34.ntmps 34 [] (bodyAt Try.f34 4) lf st (exitP [] (some [2])) =
        iteK ((s.drop i).all (fun b => letB b || digB b)) (some (.exit 0, ⟨[(2, .undef)], []⟩)) (some (.ret, ⟨[(2, .d (.bool false))], []⟩)) := by
  intro m
  induction m with
  | zero =>
    intro i z lf st hi hle hz hlf hp
    obtain ⟨n, rfl⟩ : ∃ n, lf = n + 1 := ⟨lf - 1, by omega⟩
    refine loop_step hp ?_
    have hend : ¬ z < (s.length : Int) := by omega
    rw [List.drop_eq_nil_of_le (by omega)]
    conv => lhs; whnf
    refine iteK_dec_f hend ?_
    conv => lhs; whnf
    refine Eq.trans (b := some (Fx.exit (0 : Nat), St.mk [((2 : Nat), AV.undef)] [])) (by kernel_rfl) ?_
    rfl
  | succ m ihm =>
    intro i z lf st hi hle hz hlf hp
    obtain ⟨n, rfl⟩ : ∃ n, lf = n + 1 := ⟨lf - 1, by omega⟩
    refine loop_step hp ?_
    have hend : z < (s.length : Int) := by omega
    have hx : s[i]? = some s[i] := List.getElem?_eq_getElem (by omega)
    have hd : s.drop i = s[i] :: s.drop (i + 1) := List.drop_eq_getElem_cons (by omega)
    generalize s[i] = b at hx hd
    have hlm : lim < maxLen := by decide
    rw [hd, List.all_cons]
    conv => lhs; whnf
    refine iteK_dec_t hend ?_
    conv => lhs; whnf
    refine nextK_of (aop_ixS rfl rfl rfl (ixS_at' hz hx)) ?_
    conv => lhs; whnf
    refine iteK_dec (fun h1 => ?_) (fun h1 => ?_)
    · rw [dec_t h1]
      conv => lhs; whnf
      refine nextK_of (aop_ixS rfl rfl rfl (ixS_at' hz hx)) ?_
      conv => lhs; whnf
      refine nextK_of (aop_ixS rfl rfl rfl (ixS_at' hz hx)) ?_
      conv => lhs; whnf
      refine iteK_dec (fun h2 => ?_) (fun h2 => ?_)
      · rw [dec_t h2]
        conv => lhs; whnf
        refine nextK_of (aop_ixS rfl rfl rfl (ixS_at' hz hx)) ?_
        conv => lhs; whnf
        refine iteK_not ?_
        conv => lhs; whnf
        refine iteK_dec (fun h3 => ?_) (fun h3 => ?_)
        · rw [dec_t h3]
          (exfalso; omega)
        · rw [dec_f h3]
          conv => lhs; whnf
          refine iteK_not ?_
          conv => lhs; whnf
          refine iteK_dec (fun h4 => ?_) (fun h4 => ?_)
          · rw [dec_t h4]
            conv => lhs; whnf
            refine Eq.trans (ihm (i + 1) _ n _ (by omega) (by omega) (wrap_up hz (by omega)) (by omega) rfl) ?_
            (rw [show (letB b || digB b) = true by simp [letB, digB]; omega]; rfl)
          · rw [dec_f h4]
            conv => lhs; whnf
            refine Eq.trans (b := some (Fx.ret, St.mk [((2 : Nat), AV.d (D.bool false))] [])) (by kernel_rfl) ?_
            exact (iteK_f (by simp [letB, digB]; omega) rfl).symm
      · rw [dec_f h2]
        conv => lhs; whnf
        refine iteK_not ?_
        conv => lhs; whnf
        refine iteK_dec (fun h3 => ?_) (fun h3 => ?_)
        · rw [dec_t h3]
          conv => lhs; whnf
          refine Eq.trans (ihm (i + 1) _ n _ (by omega) (by omega) (wrap_up hz (by omega)) (by omega) rfl) ?_
          (rw [show (letB b || digB b) = true by simp [letB, digB]; omega]; rfl)
        · rw [dec_f h3]
          conv => lhs; whnf
          refine Eq.trans (b := some (Fx.ret, St.mk [((2 : Nat), AV.d (D.bool false))] [])) (by kernel_rfl) ?_
          exact (iteK_f (by simp [letB, digB]; omega) rfl).symm
    · rw [dec_f h1]
      conv => lhs; whnf
      refine nextK_of (aop_ixS rfl rfl rfl (ixS_at' hz hx)) ?_
      conv => lhs; whnf
      refine iteK_dec (fun h2 => ?_) (fun h2 => ?_)
      · rw [dec_t h2]
        (exfalso; omega)
      · rw [dec_f h2]
        conv => lhs; whnf
        refine Eq.trans (b := some (Fx.ret, St.mk [((2 : Nat), AV.d (D.bool false))] [])) (by kernel_rfl) ?_
        exact (iteK_f (by simp [letB, digB]; omega) rfl).symm
theorem refName_w (s : List UInt8) (hm : s.length ≤ lim) (k : Nat) (hk : s.length + 1 < k) : icall Try.prog cfg k 34 [.d (.str s)] [] = some (.ret (.d (.bool (nameOk s))), []) := by
  obtain ⟨k, rfl⟩ : ∃ j, k = j + 1 := ⟨k - 1, by omega⟩
  rw [icall_body rfl Try.func34]
  obtain ⟨lp, hlp⟩ : ∃ lp, lp = lpOf Try.prog cfg (icall Try.prog cfg k) Try.f34.ntmps 34 k (([] : Hp).map (·.1)) := ⟨_, rfl⟩
  rw [← hlp]
  cases s with
  | nil =>
    conv => lhs; whnf
    refine Eq.trans (b := some (Res.ret (AV.d (D.bool false)), [])) (by kernel_rfl) ?_
    rfl
  | cons b s =>
  rw [nameOk_cons]
  have hall : ((b :: s).drop 0).all (fun b => letB b || digB b) = ((letB b || digB b) && s.all (fun b => letB b || digB b)) := by rw [List.drop_zero, List.all_cons]
  conv => lhs; whnf
  refine iteK_dec (fun h1 => ?_) (fun h1 => ?_)
  · rw [dec_t h1]
    conv => lhs; whnf
    refine Eq.trans (b := some (Res.ret (AV.d (D.bool false)), [])) (by kernel_rfl) ?_
    (refine ret_b ?_; rw [dec_f (show ¬(b :: s).length ≤ 32 by omega), Bool.false_and])
  · rw [dec_f h1]
    conv => lhs; whnf
    refine iteK_dec (fun h2 => ?_) (fun h2 => ?_)
    · rw [dec_t h2]
      conv => lhs; whnf
      refine Eq.trans (b := some (Res.ret (AV.d (D.bool false)), [])) (by kernel_rfl) ?_
      (refine ret_b ?_; rw [show letB b = false by simp [letB]; omega]; simp)
    · rw [dec_f h2]
      conv => lhs; whnf
      refine nextK_ite (loop_at hlp (loop33 (b :: s) k hlp hm (s.length + 1) 0 0 k _ (by simp) (by simp) rfl (by simp at hk; omega) rfl)) ?_
      conv => lhs; whnf
      refine iteK_of (fun h3 => ?_) (fun h3 => ?_)
      · conv => lhs; whnf
        refine Eq.trans (b := some (Res.ret (AV.d (D.bool true)), [])) (by kernel_rfl) ?_
        (rw [hall, show digB b = false by simp [digB]; omega, Bool.or_false] at h3; refine ret_b ?_; rw [dec_t (show (b :: s).length ≤ 32 by omega), Bool.true_and, h3])
      · conv => lhs; whnf
        refine Eq.trans (b := some (Res.ret (AV.d (D.bool false)), [])) (by kernel_rfl) ?_
        (rw [hall, show digB b = false by simp [digB]; omega, Bool.or_false] at h3; refine ret_b ?_; rw [dec_t (show (b :: s).length ≤ 32 by omega), Bool.true_and, h3])
end Go.Rx12
