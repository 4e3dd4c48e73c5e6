/- A part of the proof of the law: what functions of the program come to, walked by Rx, or plain facts on it. -/
import Derived.Test.YtghiaobecppbeaaRRef2
open Go Go.Rx Go.Proofs Go.Rx08 Go.RxTree
set_option maxRecDepth 1000000
set_option maxHeartbeats 4000000
set_option linter.unusedVariables false
set_option linter.unusedSimpArgs false
namespace Go.Rx08
section
variable {last best x : List UInt8}
theorem gt_t (h : (Op.bytesLess x last || x == last) = true) : ¬ last < x := by
  rw [bl_eq, Bool.or_eq_true, decide_eq_true_eq, beq_iff_eq] at h
  intro q
  rcases h with h | h
  · exact tx_irr (tx_trans h q)
  · subst h; exact tx_irr q
theorem gt_f (h : (Op.bytesLess x last || x == last) = false) : last < x := by
  rw [bl_eq, Bool.or_eq_false_iff, decide_eq_false_iff_not] at h
  rcases tx_tri x last with q | q | q
  · exact absurd q h.1
  · subst q; simp at h
  · exact q
theorem ms1 (h : (Op.bytesLess x last || x == last) = true) : minS last best x = best := by unfold minS; rw [if_neg (fun q => gt_t h q.1)]
theorem ms2 (h : (Op.bytesLess x last || x == last) = false) : minS last [] x = x := by unfold minS; rw [if_pos ⟨gt_f h, .inl rfl⟩]
theorem ms3 (h : (Op.bytesLess x last || x == last) = false) (h2 : Op.bytesLess x best = true) : minS last best x = x := by
  rw [bl_eq, decide_eq_true_eq] at h2; unfold minS; rw [if_pos ⟨gt_f h, .inr h2⟩]
theorem ms4 (h : (Op.bytesLess x last || x == last) = false) (h1 : best ≠ []) (h2 : Op.bytesLess x best = false) : minS last best x = best := by
  rw [bl_eq, decide_eq_false_iff_not] at h2; unfold minS; rw [if_neg (fun q => q.2.elim h1 h2)]
end
theorem minF_drop {last best : List UInt8} {l : List (List UInt8)} {i : Nat} {x : List UInt8} (h : l[i]? = some x) : minF last best (l.drop i) = minF last (minS last best x) (l.drop (i + 1)) := by
  obtain ⟨h1, e1⟩ := List.getElem?_eq_some_iff.1 h
  rw [List.drop_eq_getElem_cons h1, minF, e1]
theorem inN (j : Nat) (l : List (List UInt8)) (last : List UInt8) (hm : l.length ≤ maxLen) {lp : LP} (hlp : lp = lpOf Try.prog cfg (icall Try.prog cfg j) Try.f18.ntmps 18 j (([] : Hp).map (·.1))) :
    ∀ (m i : Nat) (z : Int) (best : List UInt8) (lf : Nat) (st : St), (l).length - i = m → i ≤ (l).length → z = (i : Int) → m < lf → prune [] [3, 4, 5, 6, 7] st = some ⟨[(3, .d (.list (sL l))), (4, .nilsl), (5, .d (.str last)), (6, .d (.str best)), (7, .d (.int .i64 z))], []⟩ →
      loopK Try.prog cfg (icall Try.prog cfg j) lp Try.f18.ntmps 18 [] (bodyAt Try.f18 8) lf st (exitP [] (some [3, 4, 6])) = some (.exit 2, ⟨[(3, .d (.list (sL l))), (4, .nilsl), (6, .d (.str (minF last best (l.drop i))))], []⟩) := by
  intro m
  induction m with
  | zero =>
    intro i z best lf st hi hle hz  hlf hp
    obtain ⟨lf, rfl⟩ : ∃ n, lf = n + 1 := ⟨lf - 1, by omega⟩
    refine loop_step hp ?_
    have hend : ¬ z < ((sL l).length : Int) := by rw [sL_len]; omega
    rw [List.drop_eq_nil_of_le (by omega)]
    conv => lhs; whnf
    refine iteK_dec_f hend ?_
    conv => lhs; whnf
    refine Eq.trans (b := some (Fx.exit (2 : Nat), St.mk [((3 : Nat), AV.d (D.list (List.map (fun s => [D.str s]) l))), ((4 : Nat), AV.nilsl), ((6 : Nat), AV.d (D.str best))] [])) (by kernel_rfl) ?_
    rfl
  | succ m ihm =>
    intro i z best lf st hi hle hz  hlf hp
    obtain ⟨lf, rfl⟩ : ∃ n, lf = n + 1 := ⟨lf - 1, by omega⟩
    refine loop_step hp ?_
    have hend : z < ((sL l).length : Int) := by rw [sL_len]; omega
    have hx0 : l[i]? = some l[i] := List.getElem?_eq_getElem (by omega)
    generalize l[i] = x at hx0
    have hx : (sL l)[i]? = some [.str x] := by simp [sL, hx0]
    rw [minF_drop hx0]
    conv => lhs; whnf
    refine iteK_dec_t hend ?_
    conv => lhs; whnf
    refine nextK_of (aop_ix rfl rfl rfl rfl (ixL_at' hz hx rfl)) ?_
    conv => lhs; whnf
    refine iteK_not ?_
    conv => lhs; whnf
    refine iteK_of (fun h1 => ?_) (fun h1 => ?_)
    · rw [h1]
      conv => lhs; whnf
      refine Eq.trans (ihm (i + 1) _ _ lf _ (by omega) (by omega) (wrap_up hz (by omega)) (by omega) rfl) ?_
      (rw [ms1 (by assumption)])
    · rw [h1]
      conv => lhs; whnf
      refine iteK_beq (fun h2 => ?_) (fun h2 => ?_)
      · obtain rfl : best = [] := h2
        conv => lhs; whnf
        refine nextK_of (aop_ix rfl rfl rfl rfl (ixL_at' hz hx rfl)) ?_
        conv => lhs; whnf
        refine Eq.trans (ihm (i + 1) _ _ lf _ (by omega) (by omega) (wrap_up hz (by omega)) (by omega) rfl) ?_
        (rw [ms2 (by assumption)])
      · rw [beq_f h2]
        conv => lhs; whnf
        refine nextK_of (aop_ix rfl rfl rfl rfl (ixL_at' hz hx rfl)) ?_
        conv => lhs; whnf
        refine iteK_of (fun h3 => ?_) (fun h3 => ?_)
        · rw [h3]
          conv => lhs; whnf
          refine nextK_of (aop_ix rfl rfl rfl rfl (ixL_at' hz hx rfl)) ?_
          conv => lhs; whnf
          refine Eq.trans (ihm (i + 1) _ _ lf _ (by omega) (by omega) (wrap_up hz (by omega)) (by omega) rfl) ?_
          (rw [ms3 (by assumption) (by assumption)])
        · rw [h3]
          conv => lhs; whnf
          refine Eq.trans (ihm (i + 1) _ _ lf _ (by omega) (by omega) (wrap_up hz (by omega)) (by omega) rfl) ?_
          (rw [ms4 (by assumption) (by assumption) (by assumption)])
theorem inS (j : Nat) (l : List (List UInt8)) (last : List UInt8) (n : Nat) (es : List (List D)) (hm : l.length ≤ maxLen) {lp : LP} (hlp : lp = lpOf Try.prog cfg (icall Try.prog cfg j) Try.f18.ntmps 18 j (([] : Hp).map (·.1))) :
    ∀ (m i : Nat) (z : Int) (best : List UInt8) (lf : Nat) (st : St), (l).length - i = m → i ≤ (l).length → z = (i : Int) → m < lf → prune [] [3, 4, 5, 6, 7] st = some ⟨[(3, .d (.list (sL l))), (4, .own (.slot 46) 0 n), (5, .d (.str last)), (6, .d (.str best)), (7, .d (.int .i64 z))], [(.slot 46, .arr 9 1 0 es)]⟩ →
      loopK Try.prog cfg (icall Try.prog cfg j) lp Try.f18.ntmps 18 [] (bodyAt Try.f18 8) lf st (exitP [] (some [3, 4, 6])) = some (.exit 2, ⟨[(3, .d (.list (sL l))), (4, .own (.slot 46) 0 n), (6, .d (.str (minF last best (l.drop i))))], [(.slot 46, .arr 9 1 0 es)]⟩) := by
  intro m
  induction m with
  | zero =>
    intro i z best lf st hi hle hz  hlf hp
    obtain ⟨lf, rfl⟩ : ∃ n, lf = n + 1 := ⟨lf - 1, by omega⟩
    refine loop_step hp ?_
    have hend : ¬ z < ((sL l).length : Int) := by rw [sL_len]; omega
    rw [List.drop_eq_nil_of_le (by omega)]
    conv => lhs; whnf
    refine iteK_dec_f hend ?_
    conv => lhs; whnf
    refine Eq.trans (b := some (Fx.exit (2 : Nat), St.mk [((3 : Nat), AV.d (D.list (List.map (fun s => [D.str s]) l))), ((4 : Nat), AV.own (Nm.slot (46 : Nat)) (nat_lit 0) n), ((6 : Nat), AV.d (D.str best))] [(Nm.slot (46 : Nat), AObj.arr (9 : Nat) (1 : Nat) (nat_lit 0) es)])) (by kernel_rfl) ?_
    rfl
  | succ m ihm =>
    intro i z best lf st hi hle hz  hlf hp
    obtain ⟨lf, rfl⟩ : ∃ n, lf = n + 1 := ⟨lf - 1, by omega⟩
    refine loop_step hp ?_
    have hend : z < ((sL l).length : Int) := by rw [sL_len]; omega
    have hx0 : l[i]? = some l[i] := List.getElem?_eq_getElem (by omega)
    generalize l[i] = x at hx0
    have hx : (sL l)[i]? = some [.str x] := by simp [sL, hx0]
    rw [minF_drop hx0]
    conv => lhs; whnf
    refine iteK_dec_t hend ?_
    conv => lhs; whnf
    refine nextK_of (aop_ix rfl rfl rfl rfl (ixL_at' hz hx rfl)) ?_
    conv => lhs; whnf
    refine iteK_not ?_
    conv => lhs; whnf
    refine iteK_of (fun h1 => ?_) (fun h1 => ?_)
    · rw [h1]
      conv => lhs; whnf
      refine Eq.trans (ihm (i + 1) _ _ lf _ (by omega) (by omega) (wrap_up hz (by omega)) (by omega) rfl) ?_
      (rw [ms1 (by assumption)])
    · rw [h1]
      conv => lhs; whnf
      refine iteK_beq (fun h2 => ?_) (fun h2 => ?_)
      · obtain rfl : best = [] := h2
        conv => lhs; whnf
        refine nextK_of (aop_ix rfl rfl rfl rfl (ixL_at' hz hx rfl)) ?_
        conv => lhs; whnf
        refine Eq.trans (ihm (i + 1) _ _ lf _ (by omega) (by omega) (wrap_up hz (by omega)) (by omega) rfl) ?_
        (rw [ms2 (by assumption)])
      · rw [beq_f h2]
        conv => lhs; whnf
        refine nextK_of (aop_ix rfl rfl rfl rfl (ixL_at' hz hx rfl)) ?_
        conv => lhs; whnf
        refine iteK_of (fun h3 => ?_) (fun h3 => ?_)
        · rw [h3]
          conv => lhs; whnf
          refine nextK_of (aop_ix rfl rfl rfl rfl (ixL_at' hz hx rfl)) ?_
          conv => lhs; whnf
          refine Eq.trans (ihm (i + 1) _ _ lf _ (by omega) (by omega) (wrap_up hz (by omega)) (by omega) rfl) ?_
          (rw [ms3 (by assumption) (by assumption)])
        · rw [h3]
          conv => lhs; whnf
          refine Eq.trans (ihm (i + 1) _ _ lf _ (by omega) (by omega) (wrap_up hz (by omega)) (by omega) rfl) ?_
          (rw [ms4 (by assumption) (by assumption) (by assumption)])
end Go.Rx08
