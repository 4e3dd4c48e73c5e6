/- A part of the proof of the law: what functions of the program come to, walked by Rx, or plain facts on it. -/
import Derived.Test.YtaghcidejnhahaaRTDx
import Derived.Test.YtaghcidejnhahaaRSpecNm
open Go Go.Rx Go.Proofs Go.Rx12 Go.RxTree
set_option maxRecDepth 1000000
set_option maxHeartbeats 4000000
set_option linter.unusedVariables false
set_option linter.unusedSimpArgs false
namespace Go.Rx12
abbrev arrS (o : Nm) (v : Nat) (es : List (List D)) : Nm × AObj := (o, .arr 9 1 v es)
theorem lenS1 {n : Nat} (h : n ≤ 1000000) : (n + 1) * (16 + 1) ≤ lim := by unfold lim; omega
/-- Texts, compared one by one. -/
def sameT : List Tx → List Tx → Bool
  | [], [] => true
  | a :: r, b :: s => if a = b then sameT r s else false
  | _, _ => false
theorem sameT_self : ∀ a : List Tx, sameT a a = true
  | [] => rfl
  | a :: r => by rw [sameT, if_pos rfl]; exact sameT_self r
theorem texts14_L (j : Nat) (a : List Tx) (hm : a.length ≤ 100000) {lp : LP} (hlp : lp = lpOf Try.prog cfg (icall Try.prog cfg j) Try.f14.ntmps 14 j (([] : Hp).map (·.1))) :
    ∀ (m i : Nat) (z : Int) (lf : Nat) (st : St), a.length - i = m → i ≤ a.length → z = (i : Int) → m < lf → prune [] [0, 1, 5] st = some ⟨[(0, .d (.list (sL a))), (1, .d (.list (sL a))), (5, .d (.int .i64 z))], []⟩ →
      loopK Try.prog cfg (icall Try.prog cfg j) lp Try.f14.ntmps 14 [] (bodyAt Try.f14 4) lf st (exitP [] (some [4])) = some (.exit 0, ⟨[(4, .undef)], []⟩) := by
  have hmx : 200000 ≤ maxLen := by decide
  intro m
  induction m with
  | zero =>
    intro i z lf st hi hle hz hlf hp
    obtain ⟨lf, rfl⟩ : ∃ n, lf = n + 1 := ⟨lf - 1, by omega⟩
    have hend : ¬ z < ((sL a).length : Int) := by rw [sL_len]; omega
    refine loop_step hp ?_
    conv => lhs; whnf
    refine iteK_dec_f hend ?_
    conv => lhs; whnf
    refine Eq.trans (b := some (Fx.exit (0 : Nat), St.mk [((4 : Nat), AV.undef)] [])) (by kernel_rfl) ?_
    rfl
  | succ m ihm =>
    intro i z lf st hi hle hz hlf hp
    obtain ⟨lf, rfl⟩ : ∃ n, lf = n + 1 := ⟨lf - 1, by omega⟩
    have hend : z < ((sL a).length : Int) := by rw [sL_len]; omega
    have hx : a[i]? = some a[i] := List.getElem?_eq_getElem (by omega)
    generalize a[i] = x at hx
    have hxg := sL_get hx
    have hih := fun lf st => ihm (i + 1) (IntKind.i64.wrap (z + 1)) lf st (by omega) (by omega) (wrap_up hz (by omega))
    refine loop_step hp ?_
    conv => lhs; whnf
    refine iteK_dec_t hend ?_
    conv => lhs; whnf
    refine iteO_t (by kernel_rfl) ?_
    conv => lhs; whnf
    refine nextK_of (aop_ix rfl rfl rfl rfl (ixL_at' hz hxg rfl)) ?_
    conv => lhs; whnf
    refine nextK_of (aop_ix rfl rfl rfl rfl (ixL_at' hz hxg rfl)) ?_
    conv => lhs; whnf
    refine iteO_t (by kernel_rfl) ?_
    conv => lhs; whnf
    refine iteK_not ?_
    conv => lhs; whnf
    refine iteK_beq (fun h1 => ?_) (fun h1 => ?_)
    · rw [beq_t h1]
      conv => lhs; whnf
      refine Eq.trans (hih lf _ (by omega) rfl) ?_
      rfl
    · rw [beq_f h1]
      conv => lhs; whnf
      refine Eq.trans (b := some (Fx.ret, St.mk [((4 : Nat), AV.d (D.bool false))] [])) (by kernel_rfl) ?_
      exact absurd rfl (by assumption)
theorem texts14 (a : List Tx) (hm : a.length ≤ 100000) (k : Nat) (hk : a.length + 1 < k) : icall Try.prog cfg k 14 [.d (.list (sL a)), .d (.list (sL a))] [] = some (.ret (.d (.bool true)), []) := by
  obtain ⟨k, rfl⟩ : ∃ j, k = j + 1 := ⟨k - 1, by omega⟩
  rw [icall_body rfl Try.func14]
  obtain ⟨lp, hlp⟩ : ∃ lp, lp = lpOf Try.prog cfg (icall Try.prog cfg k) Try.f14.ntmps 14 k (([] : Hp).map (·.1)) := ⟨_, rfl⟩
  rw [← hlp]
  conv => lhs; whnf
  refine iteK_bne (fun h1 => ?_) (fun h1 => ?_)
  · rw [bne_t h1]
    (exfalso; omega)
  · rw [bne_f h1]
    conv => lhs; whnf
    refine nextK_of (loop_at hlp (texts14_L k a hm hlp a.length 0 0 k _ rfl (Nat.zero_le _) rfl (by omega) rfl)) ?_
    conv => lhs; whnf
    refine Eq.trans (b := some (Res.ret (AV.d (D.bool true)), [])) (by kernel_rfl) ?_
    rfl
theorem names13_L (j : Nat) (id : List UInt8) (ps : List PlaceT) (hps : ps.length ≤ 100000) {lp : LP} (hlp : lp = lpOf Try.prog cfg (icall Try.prog cfg j) Try.f13.ntmps 13 j (([] : Hp).map (·.1))) :
    ∀ (m i : Nat) (z : Int) (lf : Nat) (st : St), ps.length - i = m → i ≤ ps.length → z = (i : Int) → m < lf → prune [] [1, 3] st = some ⟨[(1, .ptr (.slot 1) 0), (3, .d (.int .i64 z))], [(.slot 1, .cells [.d (.str id), .d (.list (ps.map PlaceT.cells))])]⟩ →
      loopK Try.prog cfg (icall Try.prog cfg j) lp Try.f13.ntmps 13 [] (bodyAt Try.f13 2) lf st (exitP [] (some [2])) =
        iteK ((ps.drop i).all fun p => decide (p.name.length ≤ 200)) (some (.exit 0, ⟨[(2, .undef)], []⟩)) (some (.ret, ⟨[(2, .d (.bool false))], []⟩)) := by
  have hmx : 200000 ≤ maxLen := by decide
  intro m
  induction m with
  | zero =>
    intro i z lf st hi hle hz hlf hp
    obtain ⟨lf, rfl⟩ : ∃ n, lf = n + 1 := ⟨lf - 1, by omega⟩
    have hend : ¬ z < ((ps.map PlaceT.cells).length : Int) := by rw [List.length_map]; omega
    rw [List.drop_eq_nil_of_le (by omega)]
    generalize hpc : ps.map PlaceT.cells = pl at *
    refine loop_step hp ?_
    conv => lhs; whnf
    refine iteK_dec_f hend ?_
    conv => lhs; whnf
    refine Eq.trans (b := some (Fx.exit (0 : Nat), St.mk [((2 : Nat), AV.undef)] [])) (by kernel_rfl) ?_
    rfl
  | succ m ihm =>
    intro i z lf st hi hle hz hlf hp
    obtain ⟨lf, rfl⟩ : ∃ n, lf = n + 1 := ⟨lf - 1, by omega⟩
    have hend : z < ((ps.map PlaceT.cells).length : Int) := by rw [List.length_map]; omega
    have hx : ps[i]? = some ps[i] := List.getElem?_eq_getElem (by omega)
    rw [List.drop_eq_getElem_cons (by omega), List.all_cons]
    generalize ps[i] = p at hx ⊢
    have hpg := place_get hx
    have hih := fun lf st => ihm (i + 1) (IntKind.i64.wrap (z + 1)) lf st (by omega) (by omega) (wrap_up hz (by omega))
    generalize ((ps.drop (i + 1)).all fun p => decide (p.name.length ≤ 200)) = q at *
    generalize hpc : ps.map PlaceT.cells = pl at *
    by_cases hn : p.name.length ≤ 200
    · have hn' : ¬ (p.name.length : Int) > 200 := by omega
      rw [decide_eq_true hn, Bool.true_and]
      refine loop_step hp ?_
      conv => lhs; whnf
      refine iteK_dec_t hend ?_
      conv => lhs; whnf
      refine nextK_of (aop_ix rfl rfl rfl rfl (ixL_at' hz hpg rfl)) ?_
      conv => lhs; whnf
      refine iteK_dec_f hn' ?_
      conv => lhs; whnf
      refine Eq.trans (hih lf _ (by omega) rfl) ?_
      rfl
    · have hn' : (p.name.length : Int) > 200 := by omega
      rw [decide_eq_false hn, Bool.false_and]
      refine loop_step hp ?_
      conv => lhs; whnf
      refine iteK_dec_t hend ?_
      conv => lhs; whnf
      refine nextK_of (aop_ix rfl rfl rfl rfl (ixL_at' hz hpg rfl)) ?_
      conv => lhs; whnf
      refine iteK_dec_t hn' ?_
      conv => lhs; whnf
      refine Eq.trans (b := some (Fx.ret, St.mk [((2 : Nat), AV.d (D.bool false))] [])) (by kernel_rfl) ?_
      rfl
theorem names13 (id : List UInt8) (ps : List PlaceT) (hps : ps.length ≤ 100000) (k : Nat) (hk : ps.length + 1 < k) : icall Try.prog cfg k 13 [.agg [.d (.str id), .d (.list (ps.map PlaceT.cells))]] [] = some (.ret (.d (.bool (ps.all fun p => decide (p.name.length ≤ 200)))), []) := by
  obtain ⟨k, rfl⟩ : ∃ j, k = j + 1 := ⟨k - 1, by omega⟩
  have hL := fun lf st => names13_L k id ps hps rfl ps.length 0 0 lf st rfl (Nat.zero_le _) rfl
  rw [List.drop_zero] at hL
  generalize (ps.all fun p => decide (p.name.length ≤ 200)) = q at *
  have hlf : ps.length < k := by omega
  cases q with
  | true =>
    rw [icall_body rfl Try.func13]
    obtain ⟨lp, hlp⟩ : ∃ lp, lp = lpOf Try.prog cfg (icall Try.prog cfg k) Try.f13.ntmps 13 k (([] : Hp).map (·.1)) := ⟨_, rfl⟩
    rw [← hlp]
    rw [← (show lp = lpOf Try.prog cfg (icall Try.prog cfg k) Try.f13.ntmps 13 k (([] : Hp).map (·.1)) from hlp)] at hL
    conv => lhs; whnf
    refine nextK_ite (loop_at hlp (hL k _ hlf rfl)) ?_
    conv => lhs; whnf
    refine Eq.trans (b := some (Res.ret (AV.d (D.bool true)), [])) (by kernel_rfl) ?_
    rfl
  | false =>
    rw [icall_body rfl Try.func13]
    obtain ⟨lp, hlp⟩ : ∃ lp, lp = lpOf Try.prog cfg (icall Try.prog cfg k) Try.f13.ntmps 13 k (([] : Hp).map (·.1)) := ⟨_, rfl⟩
    rw [← hlp]
    rw [← (show lp = lpOf Try.prog cfg (icall Try.prog cfg k) Try.f13.ntmps 13 k (([] : Hp).map (·.1)) from hlp)] at hL
    conv => lhs; whnf
    refine nextK_ite (loop_at hlp (hL k _ hlf rfl)) ?_
    conv => lhs; whnf
    refine Eq.trans (b := some (Res.ret (AV.d (D.bool false)), [])) (by kernel_rfl) ?_
    rfl
end Go.Rx12
