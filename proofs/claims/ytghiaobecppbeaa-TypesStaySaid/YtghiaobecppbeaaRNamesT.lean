/- A part of the proof of the law: what functions of the program come to, walked by Rx, or plain facts on it. -/
import Derived.Test.YtghiaobecppbeaaRSpecN
import Derived.Test.YtghiaobecppbeaaRRen
open Go Go.Rx Go.Proofs Go.Rx08 Go.RxTree
set_option maxRecDepth 1000000
set_option maxHeartbeats 4000000
set_option linter.unusedVariables false
set_option linter.unusedSimpArgs false
namespace Go.Rx08
theorem lenS {n : Nat} (h : n ≤ 1000000) : (n + 1) * (16 + 1) ≤ lim := by unfold lim; omega
abbrev arrS (o : Nm) (v : Nat) (es : List (List UInt8)) : Nm × AObj := (o, .arr 9 1 v (sL es))
theorem namesL_nil {l : List T} (h : namesL l = []) : ∀ x ∈ l, namesT x = [] := fun x hx => by
  induction l with
  | nil => cases hx
  | cons a r ih =>
    obtain ⟨h1, h2⟩ := List.append_eq_nil_iff.1 (show namesT a ++ namesL r = [] from h)
    rcases List.mem_cons.1 hx with rfl | hx
    · exact h1
    · exact ih h2 hx
theorem namesL_mem : ∀ {l : List T} {x : T}, x ∈ l → (namesT x).length ≤ (namesL l).length
  | a :: r, x, h => by
    have e : namesL (a :: r) = namesT a ++ namesL r := rfl
    rw [e, List.length_append]
    rcases List.mem_cons.1 h with rfl | h
    · omega
    · have := namesL_mem h; omega
theorem nmA1 (j : Nat) (l : List T) (es0 : List (List UInt8)) (hm : l.length ≤ maxLen) (hall : es0.length + (namesL l).length ≤ 1000000)
    (ihO : ∀ x : T, x ∈ l → ∀ es, es.length + (namesT x).length ≤ 1000000 → icall Try.prog cfg j 31 [.own (.arg 0) 0 es.length, x.av] [arrS (.arg 0) 0 es] = some (.ret (.own (.arg 0) 1 (es ++ namesT x).length), [arrS (.arg 0) 1 (es ++ namesT x)])) {lp : LP} (hlp : lp = lpOf Try.prog cfg (icall Try.prog cfg j) Try.f31.ntmps 31 j ([(Nm.arg 0, AObj.arr 9 1 0 (sL es0))].map (·.1))) :
    ∀ (m i : Nat) (z : Int) (es : List (List UInt8)) (lf : Nat) (st : St), (l).length - i = m → i ≤ (l).length → z = (i : Int) → es = es0 ++ namesL (l.take i) → m < lf → prune [Nm.arg 0] [0, 16, 17, 18] st = some ⟨[(0, .own (Nm.arg 0) 1 es.length), (16, .d (.list (cellsL l))), (17, .d (.int .i64 (cellsL l).length)), (18, .d (.int .i64 z))], [arrS (Nm.arg 0) 1 es]⟩ →
      loopK Try.prog cfg (icall Try.prog cfg j) lp Try.f31.ntmps 31 [Nm.arg 0] (bodyAt Try.f31 4) lf st (exitP [Nm.arg 0] (some [0])) = some (.exit 0, ⟨[(0, .own (Nm.arg 0) 1 (es0 ++ namesL l).length)], [arrS (Nm.arg 0) 1 (es0 ++ namesL l)]⟩) := by
  intro m
  induction m with
  | zero =>
    intro i z es lf st hi hle hz hes hlf hp
    obtain ⟨lf, rfl⟩ : ∃ n, lf = n + 1 := ⟨lf - 1, by omega⟩
    refine loop_step hp ?_
    have hend : ¬ z < ((cellsL l).length : Int) := by rw [cellsL_len]; omega
    obtain rfl : i = l.length := by omega
    rw [List.take_length] at hes
    subst hes
    conv => lhs; whnf
    refine iteK_dec_f hend ?_
    conv => lhs; whnf
    refine Eq.trans (b := some (Fx.exit (0 : Nat), St.mk [((0 : Nat), AV.own (Nm.arg (0 : Nat)) (nat_lit 1) (List.length (List.append es0 (namesL l))))] [(Nm.arg (0 : Nat), AObj.arr (9 : Nat) (1 : Nat) (nat_lit 1) (List.map (fun s => [D.str s]) (es0 ++ namesL l)))])) (by kernel_rfl) ?_
    rfl
  | succ m ihm =>
    intro i z es lf st hi hle hz hes hlf hp
    obtain ⟨lf, rfl⟩ : ∃ n, lf = n + 1 := ⟨lf - 1, by omega⟩
    refine loop_step hp ?_
    have hend : z < ((cellsL l).length : Int) := by rw [cellsL_len]; omega
    have hx : l[i]? = some l[i] := List.getElem?_eq_getElem (by omega)
    generalize l[i] = x at hx
    have hxm := List.mem_of_getElem? hx
    have hcat := namesL_take hx
    have hle : (namesL (l.take (i + 1))).length ≤ (namesL l).length := by
      have e := namesL_app (l.take (i + 1)) (l.drop (i + 1))
      rw [List.take_append_drop] at e
      rw [e, List.length_append]; omega
    rw [hcat, List.length_append] at hle
    have hel : es.length = es0.length + (namesL (l.take i)).length := by rw [hes, List.length_append]
    have hc := ihO x hxm es (by omega)
    have hnx : es ++ namesT x = es0 ++ namesL (l.take (i + 1)) := by rw [hcat, ← List.append_assoc, ← hes]
    conv => lhs; whnf
    refine iteK_dec_t hend ?_
    conv => lhs; whnf
    refine nextK_of (aop_ix rfl rfl rfl rfl (ixL_at' hz (cellsL_get _ _ _ hx) rfl)) ?_
    conv => lhs; whnf
    refine nextK_of hc ?_
    conv => lhs; whnf
    refine Eq.trans (ihm (i + 1) _ _ lf _ (by omega) (by omega) (wrap_up hz (by omega)) hnx (by omega) rfl) ?_
    rfl
theorem nmS (j : Nat) (l : List T) (es0 : List (List UInt8)) (hm : l.length ≤ maxLen) (hall : es0.length + (namesL l).length ≤ 1000000)
    (ihO : ∀ x : T, x ∈ l → ∀ es, es.length + (namesT x).length ≤ 1000000 → icall Try.prog cfg j 31 [.own (.arg 0) 0 es.length, x.av] [arrS (.arg 0) 0 es] = some (.ret (.own (.arg 0) 1 (es ++ namesT x).length), [arrS (.arg 0) 1 (es ++ namesT x)])) {lp : LP} (hlp : lp = lpOf Try.prog cfg (icall Try.prog cfg j) Try.f31.ntmps 31 j (([] : Hp).map (·.1))) :
    ∀ (m i : Nat) (z : Int) (es : List (List UInt8)) (lf : Nat) (st : St), (l).length - i = m → i ≤ (l).length → z = (i : Int) → es = es0 ++ namesL (l.take i) → m < lf → prune [] [0, 16, 17, 18] st = some ⟨[(0, .own (Nm.cell (Nm.res 24) 0) 0 es.length), (16, .d (.list (cellsL l))), (17, .d (.int .i64 (cellsL l).length)), (18, .d (.int .i64 z))], [arrS (Nm.cell (Nm.res 24) 0) 0 es]⟩ →
      loopK Try.prog cfg (icall Try.prog cfg j) lp Try.f31.ntmps 31 [] (bodyAt Try.f31 4) lf st (exitP [] (some [0])) = some (.exit 0, ⟨[(0, .own (Nm.cell (Nm.res 24) 0) 0 (es0 ++ namesL l).length)], [arrS (Nm.cell (Nm.res 24) 0) 0 (es0 ++ namesL l)]⟩) := by
  intro m
  induction m with
  | zero =>
    intro i z es lf st hi hle hz hes hlf hp
    obtain ⟨lf, rfl⟩ : ∃ n, lf = n + 1 := ⟨lf - 1, by omega⟩
    refine loop_step hp ?_
    have hend : ¬ z < ((cellsL l).length : Int) := by rw [cellsL_len]; omega
    obtain rfl : i = l.length := by omega
    rw [List.take_length] at hes
    subst hes
    conv => lhs; whnf
    refine iteK_dec_f hend ?_
    conv => lhs; whnf
    refine Eq.trans (b := some (Fx.exit (0 : Nat), St.mk [((0 : Nat), AV.own (Nm.cell (Nm.res (24 : Nat)) (0 : Nat)) (nat_lit 0) (List.length (List.append es0 (namesL l))))] [(Nm.cell (Nm.res (24 : Nat)) (0 : Nat), AObj.arr (9 : Nat) (1 : Nat) (nat_lit 0) (List.map (fun s => [D.str s]) (es0 ++ namesL l)))])) (by kernel_rfl) ?_
    rfl
  | succ m ihm =>
    intro i z es lf st hi hle hz hes hlf hp
    obtain ⟨lf, rfl⟩ : ∃ n, lf = n + 1 := ⟨lf - 1, by omega⟩
    refine loop_step hp ?_
    have hend : z < ((cellsL l).length : Int) := by rw [cellsL_len]; omega
    have hx : l[i]? = some l[i] := List.getElem?_eq_getElem (by omega)
    generalize l[i] = x at hx
    have hxm := List.mem_of_getElem? hx
    have hcat := namesL_take hx
    have hle : (namesL (l.take (i + 1))).length ≤ (namesL l).length := by
      have e := namesL_app (l.take (i + 1)) (l.drop (i + 1))
      rw [List.take_append_drop] at e
      rw [e, List.length_append]; omega
    rw [hcat, List.length_append] at hle
    have hel : es.length = es0.length + (namesL (l.take i)).length := by rw [hes, List.length_append]
    have hc := ihO x hxm es (by omega)
    have hnx : es ++ namesT x = es0 ++ namesL (l.take (i + 1)) := by rw [hcat, ← List.append_assoc, ← hes]
    conv => lhs; whnf
    refine iteK_dec_t hend ?_
    conv => lhs; whnf
    refine nextK_of (aop_ix rfl rfl rfl rfl (ixL_at' hz (cellsL_get _ _ _ hx) rfl)) ?_
    conv => lhs; whnf
    refine nextK_of hc ?_
    conv => lhs; whnf
    refine Eq.trans (ihm (i + 1) _ _ lf _ (by omega) (by omega) (wrap_up hz (by omega)) hnx (by omega) rfl) ?_
    rfl
theorem nmAZ (j : Nat) (l : List T) (es : List (List UInt8)) {lp : LP} (hlp : lp = lpOf Try.prog cfg (icall Try.prog cfg j) Try.f31.ntmps 31 j ([(Nm.arg 0, AObj.arr 9 1 0 (sL es))].map (·.1))) (hm : l.length ≤ maxLen) (hn : l.length ≠ 0) (hall : es.length + (namesL l).length ≤ 1000000)
    (ihO : ∀ x : T, x ∈ l → ∀ es, es.length + (namesT x).length ≤ 1000000 → icall Try.prog cfg j 31 [.own (.arg 0) 0 es.length, x.av] [arrS (.arg 0) 0 es] = some (.ret (.own (.arg 0) 1 (es ++ namesT x).length), [arrS (.arg 0) 1 (es ++ namesT x)]))
    (lf : Nat) (hlf : l.length < lf) (st : St) (hp : prune [Nm.arg 0] [0, 16, 17, 18] st = some ⟨[(0, .own (.arg 0) 0 es.length), (16, .d (.list (cellsL l))), (17, .d (.int .i64 (cellsL l).length)), (18, .d (.int .i64 0))], [arrS (.arg 0) 0 es]⟩) :
    loopK Try.prog cfg (icall Try.prog cfg j) lp Try.f31.ntmps 31 [Nm.arg 0] (bodyAt Try.f31 4) lf st (exitP [Nm.arg 0] (some [0])) = some (.exit 0, ⟨[(0, .own (.arg 0) 1 (es ++ namesL l).length)], [arrS (.arg 0) 1 (es ++ namesL l)]⟩) := by
  obtain ⟨lf, rfl⟩ : ∃ n, lf = n + 1 := ⟨lf - 1, by omega⟩
  refine loop_step hp ?_
  have hend : (0 : Int) < ((cellsL l).length : Int) := by rw [cellsL_len]; omega
  have hx : l[0]? = some l[0] := List.getElem?_eq_getElem (by omega)
  generalize l[0] = x at hx
  have hcat := namesL_take hx
  have hxm := List.mem_of_getElem? hx
  have hle := namesL_mem hxm
  have hc := ihO x hxm es (by omega)
  have hnx : es ++ namesT x = es ++ namesL (l.take (0 + 1)) := by rw [hcat]; rfl
  conv => lhs; whnf
  refine iteK_dec_t hend ?_
  conv => lhs; whnf
  refine nextK_of (aop_ix rfl rfl rfl rfl (ixL_at' (n := 0) rfl (cellsL_get _ _ _ hx) rfl)) ?_
  conv => lhs; whnf
  refine nextK_of hc ?_
  conv => lhs; whnf
  refine Eq.trans (nmA1 j l es hm hall ihO hlp (l.length - 1) 1 _ _ lf _ (by omega) (by omega) (wrap_up (n := 0) rfl (by unfold maxLen; omega)) hnx (by omega) rfl) ?_
  rfl
theorem nmN0 (j : Nat) (l : List T) (hm : l.length ≤ maxLen) (hz0 : namesL l = [])
    (in0 : ∀ x : T, x ∈ l → namesT x = [] → icall Try.prog cfg j 31 [.nilsl, x.av] [] = some (.ret .nilsl, []))
    (in1 : ∀ x : T, x ∈ l → namesT x ≠ [] → icall Try.prog cfg j 31 [.nilsl, x.av] [] = some (.ret (.own (.res 0) 0 (namesT x).length), [arrS (.res 0) 0 (namesT x)])) {lp : LP} (hlp : lp = lpOf Try.prog cfg (icall Try.prog cfg j) Try.f31.ntmps 31 j (([] : Hp).map (·.1))) :
    ∀ (m i : Nat) (z : Int)  (lf : Nat) (st : St), (l).length - i = m → i ≤ (l).length → z = (i : Int) → m < lf → prune [] [0, 16, 17, 18] st = some ⟨[(0, .nilsl), (16, .d (.list (cellsL l))), (17, .d (.int .i64 (cellsL l).length)), (18, .d (.int .i64 z))], []⟩ →
      loopK Try.prog cfg (icall Try.prog cfg j) lp Try.f31.ntmps 31 [] (bodyAt Try.f31 4) lf st (exitP [] (some [0])) = some (.exit 0, ⟨[(0, .nilsl)], []⟩) := by
  intro m
  induction m with
  | zero =>
    intro i z  lf st hi hle hz  hlf hp
    obtain ⟨lf, rfl⟩ : ∃ n, lf = n + 1 := ⟨lf - 1, by omega⟩
    refine loop_step hp ?_
    have hend : ¬ z < ((cellsL l).length : Int) := by rw [cellsL_len]; omega
    conv => lhs; whnf
    refine iteK_dec_f hend ?_
    conv => lhs; whnf
    refine Eq.trans (b := some (Fx.exit (0 : Nat), St.mk [((0 : Nat), AV.nilsl)] [])) (by kernel_rfl) ?_
    rfl
  | succ m ihm =>
    intro i z  lf st hi hle hz  hlf hp
    obtain ⟨lf, rfl⟩ : ∃ n, lf = n + 1 := ⟨lf - 1, by omega⟩
    refine loop_step hp ?_
    have hend : z < ((cellsL l).length : Int) := by rw [cellsL_len]; omega
    have hx : l[i]? = some l[i] := List.getElem?_eq_getElem (by omega)
    generalize l[i] = x at hx
    have hxm := List.mem_of_getElem? hx
    have hcat := namesL_take hx
    have hc := in0 x hxm (namesL_nil hz0 x hxm)
    conv => lhs; whnf
    refine iteK_dec_t hend ?_
    conv => lhs; whnf
    refine nextK_of (aop_ix rfl rfl rfl rfl (ixL_at' hz (cellsL_get _ _ _ hx) rfl)) ?_
    conv => lhs; whnf
    refine nextK_of hc ?_
    conv => lhs; whnf
    refine Eq.trans (ihm (i + 1) _ lf _ (by omega) (by omega) (wrap_up hz (by omega)) (by omega) rfl) ?_
    rfl
theorem nmN1 (j : Nat) (l : List T) (hall : (namesL l).length ≤ 1000000) (hm : l.length ≤ maxLen) (hne : namesL l ≠ [])
    (in0 : ∀ x : T, x ∈ l → namesT x = [] → icall Try.prog cfg j 31 [.nilsl, x.av] [] = some (.ret .nilsl, []))
    (in1 : ∀ x : T, x ∈ l → namesT x ≠ [] → icall Try.prog cfg j 31 [.nilsl, x.av] [] = some (.ret (.own (.res 0) 0 (namesT x).length), [arrS (.res 0) 0 (namesT x)]))
    (ihO : ∀ x : T, x ∈ l → ∀ es, es.length + (namesT x).length ≤ 1000000 → icall Try.prog cfg j 31 [.own (.arg 0) 0 es.length, x.av] [arrS (.arg 0) 0 es] = some (.ret (.own (.arg 0) 1 (es ++ namesT x).length), [arrS (.arg 0) 1 (es ++ namesT x)])) {lp : LP} (hlp : lp = lpOf Try.prog cfg (icall Try.prog cfg j) Try.f31.ntmps 31 j (([] : Hp).map (·.1))) :
    ∀ (m i : Nat) (z : Int) (u : Unit) (lf : Nat) (st : St), (l).length - i = m → i ≤ (l).length → z = (i : Int) → namesL (l.take i) = [] → m < lf → prune [] [0, 16, 17, 18] st = some ⟨[(0, .nilsl), (16, .d (.list (cellsL l))), (17, .d (.int .i64 (cellsL l).length)), (18, .d (.int .i64 z))], []⟩ →
      loopK Try.prog cfg (icall Try.prog cfg j) lp Try.f31.ntmps 31 [] (bodyAt Try.f31 4) lf st (exitP [] (some [0])) = some (.exit 0, ⟨[(0, .own (Nm.cell (Nm.res 24) 0) 0 (namesL l).length)], [arrS (Nm.cell (Nm.res 24) 0) 0 (namesL l)]⟩) := by
  intro m
  induction m with
  | zero =>
    intro i z u lf st hi hle hz hes hlf hp
    obtain ⟨lf, rfl⟩ : ∃ n, lf = n + 1 := ⟨lf - 1, by omega⟩
    refine loop_step hp ?_
    have hend : ¬ z < ((cellsL l).length : Int) := by rw [cellsL_len]; omega
    obtain rfl : i = l.length := by omega
    rw [List.take_length] at hes
    conv => lhs; whnf
    refine iteK_dec_f hend ?_
    conv => lhs; whnf
    refine Eq.trans (b := some (Fx.exit (0 : Nat), St.mk [((0 : Nat), AV.nilsl)] [])) (by kernel_rfl) ?_
    exact absurd hes hne
  | succ m ihm =>
    intro i z u lf st hi hle hz hes hlf hp
    obtain ⟨lf, rfl⟩ : ∃ n, lf = n + 1 := ⟨lf - 1, by omega⟩
    refine loop_step hp ?_
    have hend : z < ((cellsL l).length : Int) := by rw [cellsL_len]; omega
    have hx : l[i]? = some l[i] := List.getElem?_eq_getElem (by omega)
    generalize l[i] = x at hx
    have hxm := List.mem_of_getElem? hx
    have hcat := namesL_take hx
    have hle : (namesL (l.take (i + 1))).length ≤ (namesL l).length := by
      have e := namesL_app (l.take (i + 1)) (l.drop (i + 1))
      rw [List.take_append_drop] at e
      rw [e, List.length_append]; omega
    rw [hcat, List.length_append] at hle
    by_cases hn : namesT x = []
    have hc := in0 x hxm hn
    have hnx : namesL (l.take (i + 1)) = [] := by rw [hcat, hn, List.append_nil]; exact hes
    case' neg =>
      have hc := in1 x hxm hn
      have hnx : namesT x = [] ++ namesL (l.take (i + 1)) := by rw [hcat, hes]; rfl
    · conv => lhs; whnf
      refine iteK_dec_t hend ?_
      conv => lhs; whnf
      refine nextK_of (aop_ix rfl rfl rfl rfl (ixL_at' hz (cellsL_get _ _ _ hx) rfl)) ?_
      conv => lhs; whnf
      refine nextK_of hc ?_
      conv => lhs; whnf
      refine Eq.trans (nmS j l [] hm (by simpa using hall) ihO hlp _ (i + 1) _ (namesT x) lf _ rfl (by omega) (wrap_up hz (by omega)) hnx (by omega) rfl) ?_
      rfl
    · conv => lhs; whnf
      refine iteK_dec_t hend ?_
      conv => lhs; whnf
      refine nextK_of (aop_ix rfl rfl rfl rfl (ixL_at' hz (cellsL_get _ _ _ hx) rfl)) ?_
      conv => lhs; whnf
      refine nextK_of hc ?_
      conv => lhs; whnf
      refine Eq.trans (ihm (i + 1) _ () lf _ (by omega) (by omega) (wrap_up hz (by omega)) hnx (by omega) rfl) ?_
      rfl
theorem nm14 (j : Nat) {lp : LP} (n : Nat) (rs : List (List D)) (lf : Nat) (hlf : 0 < lf) (st : St) (hp : prune [] [0, 16, 17, 18] st = some ⟨[(0, .own (.slot 14) 0 n), (16, .d (.list [])), (17, .d (.int .i64 0)), (18, .d (.int .i64 0))], [(.slot 14, .arr 9 1 0 rs)]⟩) :
    loopK Try.prog cfg (icall Try.prog cfg j) lp Try.f31.ntmps 31 [] (bodyAt Try.f31 4) lf st (exitP [] (some [0])) = some (.exit 0, ⟨[(0, .own (.slot 14) 0 n)], [(.slot 14, .arr 9 1 0 rs)]⟩) := by
  obtain ⟨lf, rfl⟩ : ∃ n, lf = n + 1 := ⟨lf - 1, by omega⟩
  refine loop_step hp ?_
  conv => lhs; whnf
  refine Eq.trans (b := some (Fx.exit (0 : Nat), St.mk [((0 : Nat), AV.own (Nm.slot (14 : Nat)) (nat_lit 0) n)] [(Nm.slot (14 : Nat), AObj.arr (9 : Nat) (1 : Nat) (nat_lit 0) rs)])) (by kernel_rfl) ?_
  rfl
theorem nm0 (j : Nat) {lp : LP} (v n : Nat) (rs : List (List D)) (hv : v = 0 ∨ v = 1) (lf : Nat) (hlf : 0 < lf) (st : St) (hp : prune [Nm.arg 0] [0, 16, 17, 18] st = some ⟨[(0, .own (.arg 0) v n), (16, .d (.list [])), (17, .d (.int .i64 0)), (18, .d (.int .i64 0))], [(.arg 0, .arr 9 1 v rs)]⟩) :
    loopK Try.prog cfg (icall Try.prog cfg j) lp Try.f31.ntmps 31 [Nm.arg 0] (bodyAt Try.f31 4) lf st (exitP [Nm.arg 0] (some [0])) = some (.exit 0, ⟨[(0, .own (.arg 0) v n)], [(.arg 0, .arr 9 1 v rs)]⟩) := by
  obtain ⟨lf, rfl⟩ : ∃ n, lf = n + 1 := ⟨lf - 1, by omega⟩
  refine loop_step hp ?_
  rcases hv with rfl | rfl
  · conv => lhs; whnf
    refine Eq.trans (b := some (Fx.exit (0 : Nat), St.mk [((0 : Nat), AV.own (Nm.arg (0 : Nat)) (nat_lit 0) n)] [(Nm.arg (0 : Nat), AObj.arr (9 : Nat) (1 : Nat) (nat_lit 0) rs)])) (by kernel_rfl) ?_
    rfl
  · conv => lhs; whnf
    refine Eq.trans (b := some (Fx.exit (0 : Nat), St.mk [((0 : Nat), AV.own (Nm.arg (0 : Nat)) (nat_lit 1) n)] [(Nm.arg (0 : Nat), AObj.arr (9 : Nat) (1 : Nat) (nat_lit 1) rs)])) (by kernel_rfl) ?_
    rfl
/-- What a call on a tree comes to: behind a row that is there, or none. -/
def Nm31 (k : Nat) (t : T) : Prop :=
  (∀ es : List (List UInt8), es.length + (namesT t).length ≤ 1000000 → icall Try.prog cfg k 31 [.own (.arg 0) 0 es.length, t.av] [arrS (.arg 0) 0 es] = some (.ret (.own (.arg 0) 1 (es ++ namesT t).length), [arrS (.arg 0) 1 (es ++ namesT t)])) ∧
  (namesT t = [] → icall Try.prog cfg k 31 [.nilsl, t.av] [] = some (.ret .nilsl, [])) ∧
  (namesT t ≠ [] → (namesT t).length ≤ 1000000 → icall Try.prog cfg k 31 [.nilsl, t.av] [] = some (.ret (.own (.res 0) 0 (namesT t).length), [arrS (.res 0) 0 (namesT t)]))
theorem names31 : ∀ (m : Nat) (t : T), t.wt ≤ m → ∀ d, checkT t d = 0 → t.Ok → ∀ k, t.wt < k → Nm31 k t := by
  intro m
  induction m with
  | zero => intro t h; rw [T.wt_eq] at h; omega
  | succ m ihm =>
  intro t hm d hc ho k hk
  obtain ⟨x, n, s, l⟩ := t
  obtain ⟨c1, c2, c3, c4⟩ := checkT_inv hc
  obtain ⟨o1, o2, o3, o4, o5⟩ := ho
  rw [T.wt] at hm hk
  have hwl := wtL_len l
  obtain ⟨k, rfl⟩ : ∃ j, k = j + 1 := ⟨k - 1, by omega⟩
  have ih := fun y hy => ihm y (by have := wtL_mem l y hy; omega) (d + 1) (checkL_mem c4 hy) (OkL_mem o5 hy) k (by have := wtL_mem l y hy; omega)
  have ihO := fun y hy => (ih y hy).1
  have in0 := fun y hy => (ih y hy).2.1
  by_cases h2 : x = 2
  · subst h2
    have hl : l = [] := List.eq_nil_of_length_eq_zero (c2.2.2.1 (by omega))
    subst hl
    have hN : namesT (.mk 2 n s []) = [s] := rfl
    refine ⟨fun es hes => ?_, fun h => absurd h (by rw [hN]; simp), fun _ _ => ?_⟩
    · rw [hN]
      rw [hN] at hes
      have hnx : (sL es).take es.length ++ [[.str s]] = sL (es ++ [s]) := by rw [List.take_of_length_le (by rw [sL_len]; exact Nat.le_refl _), sL_app]; rfl
      show icall Try.prog cfg _ _ [_, .agg [.d (.int .i64 2), .d (.int .i64 n), .d (.str s), .d (.list [])]] _ = _
      rw [icall_body rfl Try.func31]
      obtain ⟨lp, hlp⟩ : ∃ lp, lp = lpOf Try.prog cfg (icall Try.prog cfg k) Try.f31.ntmps 31 k ([(Nm.arg 0, AObj.arr 9 1 0 (sL es))].map (·.1)) := ⟨_, rfl⟩
      rw [← hlp]
      conv => lhs; whnf
      refine nextK_of (aop_app rfl rfl rfl rfl rfl rfl rfl rfl rfl rfl rfl rfl (lenS (by simp at hes; omega))) ?_
      conv => lhs; whnf
      refine nextK_of (loop_at hlp (nm0 k 1 (es.length + 1) ((sL es).take es.length ++ [[.str s]]) (.inr rfl) k (by omega) _ rfl)) ?_
      conv => lhs; whnf
      refine Eq.trans (b := some (Res.ret (AV.own (Nm.arg (0 : Nat)) (nat_lit 1) (List.length es + (1 : Nat))), [(Nm.arg (0 : Nat), AObj.arr (9 : Nat) (1 : Nat) (nat_lit 1) (List.append (List.take (List.length es) (sL es)) [[D.str s]]))])) (by kernel_rfl) ?_
      (show some (Res.ret (.own (.arg 0) 1 (es.length + 1)), [(Nm.arg 0, AObj.arr 9 1 1 ((sL es).take es.length ++ [[.str s]]))]) = _; rw [hnx, List.length_append]; rfl)
    · rw [hN]
      show icall Try.prog cfg _ _ [_, .agg [.d (.int .i64 2), .d (.int .i64 n), .d (.str s), .d (.list [])]] _ = _
      rw [icall_body rfl Try.func31]
      obtain ⟨lp, hlp⟩ : ∃ lp, lp = lpOf Try.prog cfg (icall Try.prog cfg k) Try.f31.ntmps 31 k (([] : Hp).map (·.1)) := ⟨_, rfl⟩
      rw [← hlp]
      conv => lhs; whnf
      refine nextK_of (loop_at hlp (nm14 k 1 [[.str s]] k (by omega) _ rfl)) ?_
      conv => lhs; whnf
      refine Eq.trans (b := some (Res.ret (AV.own (Nm.res (0 : Nat)) (nat_lit 0) (1 : Nat)), [(Nm.res (0 : Nat), AObj.arr (9 : Nat) (1 : Nat) (nat_lit 0) [[D.str s]])])) (by kernel_rfl) ?_
      rfl
  · have hN : namesT (.mk x n s l) = namesL l := by rw [namesT, if_neg h2]; rfl
    have c0 := cellsL_len l
    rw [Nm31, hN]
    refine ⟨fun es hes => ?_, fun h => ?_, fun h hb => ?_⟩
    · cases l with
      | nil =>
        show icall Try.prog cfg _ _ [_, .agg [.d (.int .i64 x), .d (.int .i64 n), .d (.str s), .d (.list [])]] _ = _
        have ea : es ++ namesL [] = es := List.append_nil _
        rw [ea]
        rw [icall_body rfl Try.func31]
        obtain ⟨lp, hlp⟩ : ∃ lp, lp = lpOf Try.prog cfg (icall Try.prog cfg k) Try.f31.ntmps 31 k ([(Nm.arg 0, AObj.arr 9 1 0 (sL es))].map (·.1)) := ⟨_, rfl⟩
        rw [← hlp]
        conv => lhs; whnf
        refine iteK_beq_f h2 ?_
        conv => lhs; whnf
        refine nextK_of (loop_at hlp (nm0 k 0 es.length (sL es) (.inl rfl) k (by omega) _ rfl)) ?_
        conv => lhs; whnf
        refine Eq.trans (b := some (Res.ret (AV.own (Nm.arg (0 : Nat)) (nat_lit 1) (List.length es)), [(Nm.arg (0 : Nat), AObj.arr (9 : Nat) (1 : Nat) (nat_lit 1) (List.map (fun s => [D.str s]) es))])) (by kernel_rfl) ?_
        rfl
      | cons y r =>
        generalize hl : y :: r = l at *
        have hn : l.length ≠ 0 := by rw [← hl]; simp
        show icall Try.prog cfg _ _ [_, .agg [.d (.int .i64 x), .d (.int .i64 n), .d (.str s), .d (.list (cellsL l))]] _ = _
        rw [icall_body rfl Try.func31]
        obtain ⟨lp, hlp⟩ : ∃ lp, lp = lpOf Try.prog cfg (icall Try.prog cfg k) Try.f31.ntmps 31 k ([(Nm.arg 0, AObj.arr 9 1 0 (sL es))].map (·.1)) := ⟨_, rfl⟩
        rw [← hlp]
        conv => lhs; whnf
        refine iteK_beq_f h2 ?_
        conv => lhs; whnf
        refine nextK_of (loop_at hlp (nmAZ k l es hlp o4 hn hes ihO k (by omega) _ rfl)) ?_
        conv => lhs; whnf
        refine Eq.trans (b := some (Res.ret (AV.own (Nm.arg (0 : Nat)) (nat_lit 1) (List.length (List.append es (namesL l)))), [(Nm.arg (0 : Nat), AObj.arr (9 : Nat) (1 : Nat) (nat_lit 1) (List.map (fun s => [D.str s]) (es ++ namesL l)))])) (by kernel_rfl) ?_
        rfl
    · show icall Try.prog cfg _ _ [_, .agg [.d (.int .i64 x), .d (.int .i64 n), .d (.str s), .d (.list (cellsL l))]] _ = _
      have in1' : ∀ y : T, y ∈ l → namesT y ≠ [] → icall Try.prog cfg k 31 [.nilsl, y.av] [] = some (.ret (.own (.res 0) 0 (namesT y).length), [arrS (.res 0) 0 (namesT y)]) := fun y hy hn => absurd (namesL_nil h y hy) hn
      rw [icall_body rfl Try.func31]
      obtain ⟨lp, hlp⟩ : ∃ lp, lp = lpOf Try.prog cfg (icall Try.prog cfg k) Try.f31.ntmps 31 k (([] : Hp).map (·.1)) := ⟨_, rfl⟩
      rw [← hlp]
      conv => lhs; whnf
      refine iteK_beq_f h2 ?_
      conv => lhs; whnf
      refine nextK_of (loop_at hlp (nmN0 k l o4 h in0 in1' hlp l.length 0 0 k _ rfl (Nat.zero_le _) rfl (by omega) rfl)) ?_
      conv => lhs; whnf
      refine Eq.trans (b := some (Res.ret AV.nilsl, [])) (by kernel_rfl) ?_
      rfl
    · have in1' : ∀ y : T, y ∈ l → namesT y ≠ [] → icall Try.prog cfg k 31 [.nilsl, y.av] [] = some (.ret (.own (.res 0) 0 (namesT y).length), [arrS (.res 0) 0 (namesT y)]) := fun y hy hn => (ih y hy).2.2 hn (by
        have := namesL_mem hy
        omega)
      show icall Try.prog cfg _ _ [_, .agg [.d (.int .i64 x), .d (.int .i64 n), .d (.str s), .d (.list (cellsL l))]] _ = _
      rw [icall_body rfl Try.func31]
      obtain ⟨lp, hlp⟩ : ∃ lp, lp = lpOf Try.prog cfg (icall Try.prog cfg k) Try.f31.ntmps 31 k (([] : Hp).map (·.1)) := ⟨_, rfl⟩
      rw [← hlp]
      conv => lhs; whnf
      refine iteK_beq_f h2 ?_
      conv => lhs; whnf
      refine nextK_of (loop_at hlp (nmN1 k l hb o4 h in0 in1' ihO hlp l.length 0 0 () k _ rfl (Nat.zero_le _) rfl rfl (by omega) rfl)) ?_
      conv => lhs; whnf
      refine Eq.trans (b := some (Res.ret (AV.own (Nm.res (0 : Nat)) (nat_lit 0) (List.length (namesL l))), [(Nm.res (0 : Nat), AObj.arr (9 : Nat) (1 : Nat) (nat_lit 0) (List.map (fun s => [D.str s]) (namesL l)))])) (by kernel_rfl) ?_
      rfl
end Go.Rx08
