/- A part of the proof of the law: what functions of the program come to, walked by Rx, or plain facts on it. -/
import Derived.Test.YtaghcidejnhahaaRTDx
import Derived.Test.YtaghcidejnhahaaRDefs
import Derived.Test.YtaghcidejnhahaaRJ0
open Go Go.Rx Go.Proofs Go.Rx12 Go.RxTree
set_option maxRecDepth 1000000
set_option maxHeartbeats 4000000
set_option linter.unusedVariables false
set_option linter.unusedSimpArgs false
namespace Go.Rx12
theorem iC_i {l : List Int} {i : Nat} (h : i < l.length) : (iC l)[i]? = some [.int .i64 l[i]] := by rw [iC, List.getElem?_map, List.getElem?_eq_getElem h]; rfl
theorem same_drop {a b : List Int} {i : Nat} {x y : Int} (ha : a[i]? = some x) (hb : b[i]? = some y) : sameS (a.drop i) (b.drop i) = if x = y then sameS (a.drop (i + 1)) (b.drop (i + 1)) else false := by
  obtain ⟨h1, h2⟩ := List.getElem?_eq_some_iff.1 ha
  obtain ⟨h3, h4⟩ := List.getElem?_eq_some_iff.1 hb
  rw [List.drop_eq_getElem_cons h1, List.drop_eq_getElem_cons h3, sameS, h2, h4]
theorem same31L (j : Nat) (a b : List Int) (hab : a.length = b.length) (hm : a.length ≤ maxLen) {lp : LP} (hlp : lp = lpOf Try.prog cfg (icall Try.prog cfg j) Try.f31.ntmps 31 j (([] : Hp).map (·.1))) :
    ∀ (m i : Nat) (z : Int)  (lf : Nat) (st : St), (a).length - i = m → i ≤ (a).length → z = (i : Int) → m < lf → prune [] [0, 1, 5] st = some ⟨[(0, .d (.list (iC a))), (1, .d (.list (iC b))), (5, .d (.int .i64 z))], []⟩ →
      loopK Try.prog cfg (icall Try.prog cfg j) lp Try.f31.ntmps 31 [] (bodyAt Try.f31 4) lf st (exitP [] (some [4])) = iteK (sameS (a.drop i) (b.drop i)) (some (.exit 0, ⟨[(4, .undef)], []⟩)) (some (.ret, ⟨[(4, .d (.bool false))], []⟩)) := by
  intro m
  induction m with
  | zero =>
    intro i z  lf st hi hle hz  hlf hp
    obtain ⟨lf, rfl⟩ : ∃ n, lf = n + 1 := ⟨lf - 1, by omega⟩
    refine loop_step hp ?_
    have hend : ¬ z < ((iC a).length : Int) := by rw [iC_len]; omega
    rw [List.drop_eq_nil_of_le (by omega), List.drop_eq_nil_of_le (by omega), sameS]
    conv => lhs; whnf
    refine iteK_dec_f hend ?_
    conv => lhs; whnf
    refine Eq.trans (b := some (Fx.exit (0 : Nat), St.mk [((4 : Nat), AV.undef)] [])) (by kernel_rfl) ?_
    rfl
  | succ m ihm =>
    intro i z  lf st hi hle hz  hlf hp
    obtain ⟨lf, rfl⟩ : ∃ n, lf = n + 1 := ⟨lf - 1, by omega⟩
    refine loop_step hp ?_
    have hend : z < ((iC a).length : Int) := by rw [iC_len]; omega
    have hx : a[i]? = some a[i] := List.getElem?_eq_getElem (by omega)
    have hy : b[i]? = some b[i] := List.getElem?_eq_getElem (by omega)
    rw [same_drop hx hy]
    have gx := iC_i (l := a) (i := i) (by omega)
    have gy := iC_i (l := b) (i := i) (by omega)
    generalize a[i] = x at *
    generalize b[i] = y at *
    conv => lhs; whnf
    refine iteK_dec_t hend ?_
    conv => lhs; whnf
    refine iteO_t (by kernel_rfl) ?_
    conv => lhs; whnf
    refine nextK_of (aop_ix rfl rfl rfl rfl (ixL_at' hz gx rfl)) ?_
    conv => lhs; whnf
    refine nextK_of (aop_ix rfl rfl rfl rfl (ixL_at' hz gy rfl)) ?_
    conv => lhs; whnf
    refine iteO_t (by kernel_rfl) ?_
    conv => lhs; whnf
    refine iteK_bne (fun h1 => ?_) (fun h1 => ?_)
    · rw [bne_t h1]
      conv => lhs; whnf
      refine Eq.trans (b := some (Fx.ret, St.mk [((4 : Nat), AV.d (D.bool false))] [])) (by kernel_rfl) ?_
      (rw [if_neg (by assumption)]; rfl)
    · rw [bne_f h1]
      conv => lhs; whnf
      refine Eq.trans (ihm (i + 1) _ lf _ (by omega) (by omega) (wrap_up hz (by omega)) (by omega) rfl) ?_
      (rw [if_pos (by assumption)])
theorem same31 (a b : List Int) (hm : a.length ≤ maxLen) (k : Nat) (hk : a.length + 1 < k) : icall Try.prog cfg k 31 [.d (.list (iC a)), .d (.list (iC b))] [] = some (.ret (.d (.bool (sameS a b))), []) := by
  obtain ⟨k, rfl⟩ : ∃ j, k = j + 1 := ⟨k - 1, by omega⟩
  by_cases hab : a.length = b.length
  · have hl : ((iC a).length : Int) = ((iC b).length : Int) := by rw [iC_len, iC_len]; omega
    have h0 : sameS (a.drop 0) (b.drop 0) = sameS a b := rfl
    rw [← h0]
    rw [icall_body rfl Try.func31]
    obtain ⟨lp, hlp⟩ : ∃ lp, lp = lpOf Try.prog cfg (icall Try.prog cfg k) Try.f31.ntmps 31 k (([] : Hp).map (·.1)) := ⟨_, rfl⟩
    rw [← hlp]
    conv => lhs; whnf
    refine iteK_bne_f hl ?_
    conv => lhs; whnf
    refine nextK_ite (loop_at hlp (same31L k a b hab hm hlp a.length 0 0 k _ rfl (Nat.zero_le _) rfl (by omega) rfl)) ?_
    conv => lhs; whnf
    refine iteK_of (fun h1 => ?_) (fun h1 => ?_)
    · rw [h1]
      conv => lhs; whnf
      refine Eq.trans (b := some (Res.ret (AV.d (D.bool true)), [])) (by kernel_rfl) ?_
      rfl
    · rw [h1]
      conv => lhs; whnf
      refine Eq.trans (b := some (Res.ret (AV.d (D.bool false)), [])) (by kernel_rfl) ?_
      rfl
  · have hl : ¬ ((iC a).length : Int) = ((iC b).length : Int) := by rw [iC_len, iC_len]; omega
    rw [sameS_eq, show decide (a = b) = false by rw [decide_eq_false_iff_not]; intro h; subst h; exact hab rfl]
    rw [icall_body rfl Try.func31]
    obtain ⟨lp, hlp⟩ : ∃ lp, lp = lpOf Try.prog cfg (icall Try.prog cfg k) Try.f31.ntmps 31 k (([] : Hp).map (·.1)) := ⟨_, rfl⟩
    rw [← hlp]
    conv => lhs; whnf
    refine iteK_bne_t hl ?_
    conv => lhs; whnf
    refine Eq.trans (b := some (Res.ret (AV.d (D.bool false)), [])) (by kernel_rfl) ?_
    rfl
theorem lenI1 {n : Nat} (h : n ≤ 1000000) : (n + 1) * (8 + 1) ≤ lim := by unfold lim; omega
theorem lenF {n : Nat} (h : n ≤ 1000000) : n * (8 + 1) ≤ lim := by unfold lim; omega
theorem iC_all (l : List Int) : (iC l).all (fun y => y.length == 1) = true := by
  rw [iC, List.all_map, List.all_eq_true]; intro x _; rfl
end Go.Rx12
