/- A part of the proof of the law: what functions of the program come to, walked by Rx, or plain facts on it. -/
import Derived.Test.YtghiaobecppbeaaRRef
open Go Go.Rx Go.Proofs Go.Rx08 Go.RxTree
set_option maxRecDepth 1000000
set_option maxHeartbeats 4000000
set_option linter.unusedVariables false
set_option linter.unusedSimpArgs false
namespace Go.Rx08
theorem lenS2 {n m : Nat} (h : n + m ≤ 1000000) : (n + m) * (16 + 1) ≤ lim := by unfold lim; omega
abbrev ex1 (t : T) : Nm × AObj := (.slot 1, .cells [.d (.int .i64 t.kind), .d (.int .i64 t.n), .d (.str t.name), .d (.list (cellsL t.kids))])
theorem colS (j : Nat) (t : T) (hm : t.kids.length ≤ maxLen) (hall : (namesL t.kids).length ≤ 1000000)
    (ih : ∀ x : T, x ∈ t.kids → icall Try.prog cfg j 34 [x.av] [] = some (.ret (.d (.list (sL (namesT x)))), [])) {lp : LP} (hlp : lp = lpOf Try.prog cfg (icall Try.prog cfg j) Try.f34.ntmps 34 j (([] : Hp).map (·.1))) :
    ∀ (m i : Nat) (z : Int) (n : Nat) (es : List (List D)) (lf : Nat) (st : St), (t.kids).length - i = m → i ≤ (t.kids).length → z = (i : Int) → n = (namesL (t.kids.take i)).length → es = sL (namesL (t.kids.take i)) → m < lf → prune [] [1, 3, 4] st = some ⟨[(1, .ptr (.slot 1) 0), (3, .own (.slot 25) 0 n), (4, .d (.int .i64 z))], [ex1 t, (.slot 25, .arr 9 1 0 es)]⟩ →
      loopK Try.prog cfg (icall Try.prog cfg j) lp Try.f34.ntmps 34 [] (bodyAt Try.f34 5) lf st (exitP [] (some [3])) = some (.exit 0, ⟨[(3, .own (.slot 25) 0 (namesL t.kids).length)], [(.slot 25, .arr 9 1 0 (sL (namesL t.kids)))]⟩) := by
  intro m
  induction m with
  | zero =>
    intro i z n es lf st hi hle hz hn hes hlf hp
    obtain ⟨lf, rfl⟩ : ∃ n, lf = n + 1 := ⟨lf - 1, by omega⟩
    refine loop_step hp ?_
    have hend : ¬ z < ((cellsL t.kids).length : Int) := by rw [cellsL_len]; omega
    obtain rfl : i = t.kids.length := by omega
    rw [List.take_length] at hes hn
    subst hes hn
    conv => lhs; whnf
    refine iteK_dec_f hend ?_
    conv => lhs; whnf
    refine Eq.trans (b := some (Fx.exit (0 : Nat), St.mk [((3 : Nat), AV.own (Nm.slot (25 : Nat)) (nat_lit 0) (List.length (namesL (T.kids t))))] [(Nm.slot (25 : Nat), AObj.arr (9 : Nat) (1 : Nat) (nat_lit 0) (List.map (fun s => [D.str s]) (namesL (T.kids t))))])) (by kernel_rfl) ?_
    rfl
  | succ m ihm =>
    intro i z n es lf st hi hle hz hn hes hlf hp
    obtain ⟨lf, rfl⟩ : ∃ n, lf = n + 1 := ⟨lf - 1, by omega⟩
    refine loop_step hp ?_
    have hend : z < ((cellsL t.kids).length : Int) := by rw [cellsL_len]; omega
    have hx : t.kids[i]? = some t.kids[i] := List.getElem?_eq_getElem (by omega)
    generalize t.kids[i] = x at hx
    have hc := ih x (List.mem_of_getElem? hx)
    have hcat := namesL_take hx
    have hle : (namesL (t.kids.take (i + 1))).length ≤ (namesL t.kids).length := by
      have e := namesL_app (t.kids.take (i + 1)) (t.kids.drop (i + 1))
      rw [List.take_append_drop] at e
      rw [e, List.length_append]; omega
    have hn2 : n + (sL (namesT x)).length = (namesL (t.kids.take (i + 1))).length := by rw [hcat, List.length_append, sL_len, hn]
    have hes2 : es.take n ++ sL (namesT x) = sL (namesL (t.kids.take (i + 1))) := by rw [hcat, sL_app, hes, hn, List.take_of_length_le (by rw [sL_len]; exact Nat.le_refl _)]
    conv => lhs; whnf
    refine iteK_dec_t hend ?_
    conv => lhs; whnf
    refine nextK_of (aop_ix rfl rfl rfl rfl (ixL_at' hz (cellsL_get _ _ _ hx) rfl)) ?_
    conv => lhs; whnf
    refine nextK_of hc ?_
    conv => lhs; whnf
    refine nextK_of (aop_app rfl rfl rfl rfl rfl rfl rfl rfl rfl (sL_all _) rfl rfl (lenS2 (by omega))) ?_
    conv => lhs; whnf
    refine Eq.trans (ihm (i + 1) _ _ _ lf _ (by omega) (by omega) (wrap_up hz (by omega)) hn2 hes2 (by omega) rfl) ?_
    rfl
theorem colN0 (j : Nat) (t : T) (hm : t.kids.length ≤ maxLen) (hz0 : namesL t.kids = [])
    (ih : ∀ x : T, x ∈ t.kids → icall Try.prog cfg j 34 [x.av] [] = some (.ret (.d (.list (sL (namesT x)))), [])) {lp : LP} (hlp : lp = lpOf Try.prog cfg (icall Try.prog cfg j) Try.f34.ntmps 34 j (([] : Hp).map (·.1))) :
    ∀ (m i : Nat) (z : Int)  (lf : Nat) (st : St), (t.kids).length - i = m → i ≤ (t.kids).length → z = (i : Int) → m < lf → prune [] [1, 3, 4] st = some ⟨[(1, .ptr (.slot 1) 0), (3, .nilsl), (4, .d (.int .i64 z))], [ex1 t]⟩ →
      loopK Try.prog cfg (icall Try.prog cfg j) lp Try.f34.ntmps 34 [] (bodyAt Try.f34 5) lf st (exitP [] (some [3])) = some (.exit 0, ⟨[(3, .nilsl)], []⟩) := by
  intro m
  induction m with
  | zero =>
    intro i z  lf st hi hle hz  hlf hp
    obtain ⟨lf, rfl⟩ : ∃ n, lf = n + 1 := ⟨lf - 1, by omega⟩
    refine loop_step hp ?_
    have hend : ¬ z < ((cellsL t.kids).length : Int) := by rw [cellsL_len]; omega
    conv => lhs; whnf
    refine iteK_dec_f hend ?_
    conv => lhs; whnf
    refine Eq.trans (b := some (Fx.exit (0 : Nat), St.mk [((3 : Nat), AV.nilsl)] [])) (by kernel_rfl) ?_
    rfl
  | succ m ihm =>
    intro i z  lf st hi hle hz  hlf hp
    obtain ⟨lf, rfl⟩ : ∃ n, lf = n + 1 := ⟨lf - 1, by omega⟩
    refine loop_step hp ?_
    have hend : z < ((cellsL t.kids).length : Int) := by rw [cellsL_len]; omega
    have hx : t.kids[i]? = some t.kids[i] := List.getElem?_eq_getElem (by omega)
    generalize t.kids[i] = x at hx
    have hc := ih x (List.mem_of_getElem? hx)
    rw [namesL_nil hz0 x (List.mem_of_getElem? hx)] at hc
    conv => lhs; whnf
    refine iteK_dec_t hend ?_
    conv => lhs; whnf
    refine nextK_of (aop_ix rfl rfl rfl rfl (ixL_at' hz (cellsL_get _ _ _ hx) rfl)) ?_
    conv => lhs; whnf
    refine nextK_of hc ?_
    conv => lhs; whnf
    refine Eq.trans (ihm (i + 1) _ lf _ (by omega) (by omega) (wrap_up hz (by omega)) (by omega) rfl) ?_
    rfl
theorem colN1 (j : Nat) (t : T) (hm : t.kids.length ≤ maxLen) (hall : (namesL t.kids).length ≤ 1000000) (hne : namesL t.kids ≠ [])
    (ih : ∀ x : T, x ∈ t.kids → icall Try.prog cfg j 34 [x.av] [] = some (.ret (.d (.list (sL (namesT x)))), [])) {lp : LP} (hlp : lp = lpOf Try.prog cfg (icall Try.prog cfg j) Try.f34.ntmps 34 j (([] : Hp).map (·.1))) :
    ∀ (m i : Nat) (z : Int) (u : Unit) (lf : Nat) (st : St), (t.kids).length - i = m → i ≤ (t.kids).length → z = (i : Int) → namesL (t.kids.take i) = [] → m < lf → prune [] [1, 3, 4] st = some ⟨[(1, .ptr (.slot 1) 0), (3, .nilsl), (4, .d (.int .i64 z))], [ex1 t]⟩ →
      loopK Try.prog cfg (icall Try.prog cfg j) lp Try.f34.ntmps 34 [] (bodyAt Try.f34 5) lf st (exitP [] (some [3])) = some (.exit 0, ⟨[(3, .own (.slot 25) 0 (namesL t.kids).length)], [(.slot 25, .arr 9 1 0 (sL (namesL t.kids)))]⟩) := by
  intro m
  induction m with
  | zero =>
    intro i z u lf st hi hle hz hes hlf hp
    obtain ⟨lf, rfl⟩ : ∃ n, lf = n + 1 := ⟨lf - 1, by omega⟩
    refine loop_step hp ?_
    have hend : ¬ z < ((cellsL t.kids).length : Int) := by rw [cellsL_len]; omega
    obtain rfl : i = t.kids.length := by omega
    rw [List.take_length] at hes
    conv => lhs; whnf
    refine iteK_dec_f hend ?_
    conv => lhs; whnf
    refine Eq.trans (b := some (Fx.exit (0 : Nat), St.mk [((3 : Nat), AV.nilsl)] [])) (by kernel_rfl) ?_
    exact absurd hes hne
  | succ m ihm =>
    intro i z u lf st hi hle hz hes hlf hp
    obtain ⟨lf, rfl⟩ : ∃ n, lf = n + 1 := ⟨lf - 1, by omega⟩
    refine loop_step hp ?_
    have hend : z < ((cellsL t.kids).length : Int) := by rw [cellsL_len]; omega
    have hx : t.kids[i]? = some t.kids[i] := List.getElem?_eq_getElem (by omega)
    generalize t.kids[i] = x at hx
    have hc := ih x (List.mem_of_getElem? hx)
    have hcat := namesL_take hx
    have hlx := namesL_mem (List.mem_of_getElem? hx)
    by_cases hn : namesT x = []
    rw [hn] at hc
    have hnx : namesL (t.kids.take (i + 1)) = [] := by rw [hcat, hn, List.append_nil]; exact hes
    case' neg =>
      have hne2 : (sL (namesT x)).length ≠ 0 := by rw [sL_len]; exact fun e => hn (List.eq_nil_of_length_eq_zero e)
      have hlx2 : 0 + (sL (namesT x)).length ≤ 1000000 := by rw [sL_len]; omega
      have hn2 : (sL (namesT x)).length = (namesL (t.kids.take (i + 1))).length := by rw [hcat, hes, sL_len]; rfl
      have hes2 : sL (namesT x) = sL (namesL (t.kids.take (i + 1))) := by rw [hcat, hes]; rfl
    · conv => lhs; whnf
      refine iteK_dec_t hend ?_
      conv => lhs; whnf
      refine nextK_of (aop_ix rfl rfl rfl rfl (ixL_at' hz (cellsL_get _ _ _ hx) rfl)) ?_
      conv => lhs; whnf
      refine nextK_of hc ?_
      conv => lhs; whnf
      refine nextK_of (aop_app0 rfl rfl rfl rfl rfl rfl rfl rfl rfl (sL_all _) rfl rfl hne2 (by have := lenS2 hlx2; rwa [Nat.zero_add] at this)) ?_
      conv => lhs; whnf
      refine Eq.trans (colS j t hm hall ih hlp _ (i + 1) _ _ _ lf _ rfl (by omega) (wrap_up hz (by omega)) hn2 hes2 (by omega) rfl) ?_
      rfl
    · conv => lhs; whnf
      refine iteK_dec_t hend ?_
      conv => lhs; whnf
      refine nextK_of (aop_ix rfl rfl rfl rfl (ixL_at' hz (cellsL_get _ _ _ hx) rfl)) ?_
      conv => lhs; whnf
      refine nextK_of hc ?_
      conv => lhs; whnf
      refine Eq.trans (ihm (i + 1) _ () lf _ (by omega) (by omega) (wrap_up hz (by omega)) hnx (by omega) rfl) ?_
      rfl
theorem collect34 : ∀ (m : Nat) (t : T), t.wt ≤ m → ∀ d, checkT t d = 0 → t.Ok → (namesT t).length ≤ 1000000 → ∀ k, t.wt < k → icall Try.prog cfg k 34 [t.av] [] = some (.ret (.d (.list (sL (namesT t)))), []) := by
  intro m
  induction m with
  | zero => intro t h; rw [T.wt_eq] at h; omega
  | succ m ihm =>
  intro t hm d hc ho hN k hk
  obtain ⟨x, n, s, l⟩ := t
  obtain ⟨c1, c2, c3, c4⟩ := checkT_inv hc
  obtain ⟨o1, o2, o3, o4, o5⟩ := ho
  rw [T.wt] at hm hk
  have hwl := wtL_len l
  obtain ⟨k, rfl⟩ : ∃ j, k = j + 1 := ⟨k - 1, by omega⟩
  show icall Try.prog cfg _ _ [.agg [.d (.int .i64 x), .d (.int .i64 n), .d (.str s), .d (.list (cellsL l))]] _ = _
  by_cases h2 : x = 2
  · subst h2
    have hl : l = [] := List.eq_nil_of_length_eq_zero (c2.2.2.1 (by omega))
    subst hl
    rw [icall_body rfl Try.func34]
    obtain ⟨lp, hlp⟩ : ∃ lp, lp = lpOf Try.prog cfg (icall Try.prog cfg k) Try.f34.ntmps 34 k (([] : Hp).map (·.1)) := ⟨_, rfl⟩
    rw [← hlp]
    conv => lhs; whnf
    refine Eq.trans (b := some (Res.ret (AV.d (D.list [[D.str s]])), [])) (by kernel_rfl) ?_
    rfl
  · have hNe : namesT (.mk x n s l) = namesL l := by rw [namesT, if_neg h2]; rfl
    rw [hNe] at hN ⊢
    have ih : ∀ y : T, y ∈ l → icall Try.prog cfg k 34 [y.av] [] = some (.ret (.d (.list (sL (namesT y)))), []) := fun y hy => ihm y (by have := wtL_mem l y hy; omega) (d + 1) (checkL_mem c4 hy) (OkL_mem o5 hy) (by have := namesL_mem hy; omega) k (by have := wtL_mem l y hy; omega)
    by_cases hn : namesL l = []
    · rw [hn]
      rw [icall_body rfl Try.func34]
      obtain ⟨lp, hlp⟩ : ∃ lp, lp = lpOf Try.prog cfg (icall Try.prog cfg k) Try.f34.ntmps 34 k (([] : Hp).map (·.1)) := ⟨_, rfl⟩
      rw [← hlp]
      conv => lhs; whnf
      refine iteK_beq_f h2 ?_
      conv => lhs; whnf
      refine nextK_of (loop_at hlp (colN0 k (.mk x n s l) o4 hn ih hlp l.length 0 0 k _ rfl (Nat.zero_le _) rfl (by omega) rfl)) ?_
      conv => lhs; whnf
      refine Eq.trans (b := some (Res.ret (AV.d (D.list [])), [])) (by kernel_rfl) ?_
      rfl
    · have ht := take_all (namesL l)
      rw [icall_body rfl Try.func34]
      obtain ⟨lp, hlp⟩ : ∃ lp, lp = lpOf Try.prog cfg (icall Try.prog cfg k) Try.f34.ntmps 34 k (([] : Hp).map (·.1)) := ⟨_, rfl⟩
      rw [← hlp]
      conv => lhs; whnf
      refine iteK_beq_f h2 ?_
      conv => lhs; whnf
      refine nextK_of (loop_at hlp (colN1 k (.mk x n s l) o4 hN hn ih hlp l.length 0 0 () k _ rfl (Nat.zero_le _) rfl rfl (by omega) rfl)) ?_
      conv => lhs; whnf
      refine Eq.trans (b := some (Res.ret (AV.d (D.list (List.take (List.length (namesL (T.kids (T.mk x n s l)))) (sL (namesL (T.kids (T.mk x n s l))))))), [])) (by kernel_rfl) ?_
      (exact congrArg (fun x => some (Res.ret (AV.d (D.list x)), ([] : Hp))) ht)
theorem tx16L (j : Nat) (l : List (List UInt8)) (hm : l.length ≤ maxLen) {lp : LP} (hlp : lp = lpOf Try.prog cfg (icall Try.prog cfg j) Try.f16.ntmps 16 j (([] : Hp).map (·.1))) :
    ∀ (m i : Nat) (z : Int)  (lf : Nat) (st : St), (l).length - i = m → i ≤ (l).length → z = (i : Int) → m < lf → prune [] [0, 1, 5] st = some ⟨[(0, .d (.list (sL l))), (1, .d (.list (sL l))), (5, .d (.int .i64 z))], []⟩ →
      loopK Try.prog cfg (icall Try.prog cfg j) lp Try.f16.ntmps 16 [] (bodyAt Try.f16 4) lf st (exitP [] (some [4])) = some (.exit 0, ⟨[(4, .undef)], []⟩) := by
  intro m
  induction m with
  | zero =>
    intro i z  lf st hi hle hz  hlf hp
    obtain ⟨lf, rfl⟩ : ∃ n, lf = n + 1 := ⟨lf - 1, by omega⟩
    refine loop_step hp ?_
    have hend : ¬ z < ((sL l).length : Int) := by rw [sL_len]; omega
    conv => lhs; whnf
    refine iteK_dec_f hend ?_
    conv => lhs; whnf
    refine Eq.trans (b := some (Fx.exit (0 : Nat), St.mk [((4 : Nat), AV.undef)] [])) (by kernel_rfl) ?_
    rfl
  | succ m ihm =>
    intro i z  lf st hi hle hz  hlf hp
    obtain ⟨lf, rfl⟩ : ∃ n, lf = n + 1 := ⟨lf - 1, by omega⟩
    refine loop_step hp ?_
    have hend : z < ((sL l).length : Int) := by rw [sL_len]; omega
    have hx : (sL l)[i]? = some [.str l[i]] := by simp [sL, show i < l.length by omega]
    conv => lhs; whnf
    refine iteK_dec_t hend ?_
    conv => lhs; whnf
    refine iteO_t (by kernel_rfl) ?_
    conv => lhs; whnf
    refine nextK_of (aop_ix rfl rfl rfl rfl (ixL_at' hz hx rfl)) ?_
    conv => lhs; whnf
    refine nextK_of (aop_ix rfl rfl rfl rfl (ixL_at' hz hx rfl)) ?_
    conv => lhs; whnf
    refine iteO_t (by kernel_rfl) ?_
    conv => lhs; whnf
    refine iteK_not ?_
    conv => lhs; whnf
    refine iteK_beq (fun h1 => ?_) (fun h1 => ?_)
    · rw [beq_t h1]
      conv => lhs; whnf
      refine Eq.trans (ihm (i + 1) _ lf _ (by omega) (by omega) (wrap_up hz (by omega)) (by omega) rfl) ?_
      rfl
    · rw [beq_f h1]
      conv => lhs; whnf
      refine Eq.trans (b := some (Fx.ret, St.mk [((4 : Nat), AV.d (D.bool false))] [])) (by kernel_rfl) ?_
      exact absurd rfl (by assumption)
theorem texts16 (l : List (List UInt8)) (hm : l.length ≤ maxLen) (k : Nat) (hk : l.length + 2 < k) : icall Try.prog cfg k 16 [.d (.list (sL l)), .d (.list (sL l))] [] = some (.ret (.d (.bool true)), []) := by
  obtain ⟨k, rfl⟩ : ∃ j, k = j + 1 := ⟨k - 1, by omega⟩
  rw [icall_body rfl Try.func16]
  obtain ⟨lp, hlp⟩ : ∃ lp, lp = lpOf Try.prog cfg (icall Try.prog cfg k) Try.f16.ntmps 16 k (([] : Hp).map (·.1)) := ⟨_, rfl⟩
  rw [← hlp]
  conv => lhs; whnf
  refine iteK_bne (fun h1 => ?_) (fun h1 => ?_)
  · rw [bne_t h1]
    (exfalso; omega)
  · rw [bne_f h1]
    conv => lhs; whnf
    refine nextK_of (loop_at hlp (tx16L k l hm hlp l.length 0 0 k _ rfl (Nat.zero_le _) rfl (by omega) rfl)) ?_
    conv => lhs; whnf
    refine Eq.trans (b := some (Res.ret (AV.d (D.bool true)), [])) (by kernel_rfl) ?_
    rfl
end Go.Rx08
