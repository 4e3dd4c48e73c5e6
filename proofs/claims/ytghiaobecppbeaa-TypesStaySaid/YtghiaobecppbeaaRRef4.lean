/- A part of the proof of the law: what functions of the program come to, walked by Rx, or plain facts on it. -/
import Derived.Test.YtghiaobecppbeaaRRef3
open Go Go.Rx Go.Proofs Go.Rx08 Go.RxTree
set_option maxRecDepth 1000000
set_option maxHeartbeats 4000000
set_option linter.unusedVariables false
set_option linter.unusedSimpArgs false
namespace Go.Rx08
theorem drop0 (last best : List UInt8) (l : List (List UInt8)) : minF last best (l.drop 0) = minF last best l := rfl
theorem outS (j : Nat) (l : List (List UInt8)) (hm : l.length ≤ maxLen) (hlj : l.length + 1 < j) {lp : LP} (hlp : lp = lpOf Try.prog cfg (icall Try.prog cfg j) Try.f18.ntmps 18 j (([] : Hp).map (·.1))) :
    ∀ (q : List (List UInt8)) (last : List UInt8) (n : Nat) (es : List (List D)) (lf : Nat) (st : St), Go.RxTree.Left l last q → n = es.length → n + q.length ≤ 1000000 → q.length < lf →
      prune [] [3, 4, 5] st = some ⟨[(3, .d (.list (sL l))), (4, .own (.slot 46) 0 n), (5, .d (.str last))], [(.slot 46, .arr 9 1 0 es)]⟩ →
      loopK Try.prog cfg (icall Try.prog cfg j) lp Try.f18.ntmps 18 [] (bodyAt Try.f18 6) lf st (exitP [] (some [4])) = some (.exit 0, ⟨[(4, .own (.slot 46) 0 (es ++ sL q).length)], [(.slot 46, .arr 9 1 0 (es ++ sL q))]⟩) := by
  intro q
  induction q with
  | nil =>
    intro last n es lf st hq hn hb hlf hp
    obtain ⟨lf, rfl⟩ : ∃ n, lf = n + 1 := ⟨lf - 1, by omega⟩
    refine loop_step hp ?_
    have hin := fun (st : St) (hp : prune [] [3, 4, 5, 6, 7] st = some ⟨[(3, .d (.list (sL l))), (4, .own (.slot 46) 0 n), (5, .d (.str last)), (6, .d (.str [])), (7, .d (.int .i64 0))], [(.slot 46, .arr 9 1 0 es)]⟩) => inS j l last n es hm hlp l.length 0 0 [] j st rfl (Nat.zero_le _) rfl (by omega) hp
    simp only [List.drop_zero, left_nil hq] at hin
    have e : es ++ sL [] = es := List.append_nil _
    rw [e, ← hn]
    conv => lhs; whnf
    refine nextK_of (loop_at hlp (hin _ rfl)) ?_
    conv => lhs; whnf
    refine Eq.trans (b := some (Fx.exit (0 : Nat), St.mk [((4 : Nat), AV.own (Nm.slot (46 : Nat)) (nat_lit 0) n)] [(Nm.slot (46 : Nat), AObj.arr (9 : Nat) (1 : Nat) (nat_lit 0) es)])) (by kernel_rfl) ?_
    rfl
  | cons x q ihq =>
    intro last n es lf st hq hn hb hlf hp
    obtain ⟨lf, rfl⟩ : ∃ n, lf = n + 1 := ⟨lf - 1, by omega⟩
    refine loop_step hp ?_
    obtain ⟨e1, e2, e3⟩ := left_cons hq
    have hin := fun (st : St) (hp : prune [] [3, 4, 5, 6, 7] st = some ⟨[(3, .d (.list (sL l))), (4, .own (.slot 46) 0 n), (5, .d (.str last)), (6, .d (.str [])), (7, .d (.int .i64 0))], [(.slot 46, .arr 9 1 0 es)]⟩) => inS j l last n es hm hlp l.length 0 0 [] j st rfl (Nat.zero_le _) rfl (by omega) hp
    simp only [List.drop_zero, e1] at hin
    have e : es ++ sL (x :: q) = (es ++ [[.str x]]) ++ sL q := by rw [List.append_assoc]; rfl
    rw [e]
    have htk : es.take n = es := List.take_of_length_le (by omega)
    simp only [List.length_cons] at hb hlf
    conv => lhs; whnf
    refine nextK_of (loop_at hlp (hin _ rfl)) ?_
    conv => lhs; whnf
    refine iteK_beq_f e2 ?_
    conv => lhs; whnf
    refine nextK_of (aop_app rfl rfl rfl rfl rfl rfl rfl rfl rfl rfl rfl rfl (lenS (by omega))) ?_
    conv => lhs; whnf
    refine Eq.trans (ihq x (n + 1) (es.take n ++ [[.str x]]) lf _ e3 (by rw [List.length_append, htk]; simp; omega) (by omega) (by omega) rfl) ?_
    (rw [htk])
theorem names18 (t : T) (hs : t.Sm) (ho : t.Ok) (k : Nat) (hk : t.wt + 70000 < k) : icall Try.prog cfg k 18 [t.av] [] = some (.ret (.d (.list (sL (nmP t)))), []) := by
  obtain ⟨k, rfl⟩ : ∃ j, k = j + 1 := ⟨k - 1, by omega⟩
  show icall Try.prog cfg _ _ [.agg [.d (.int .i64 t.kind), .d (.int .i64 t.n), .d (.str t.name), .d (.list (cellsL t.kids))]] [] = _
  have c1 := check19 t hs ho k (by omega)
  unfold nmP
  by_cases hc : checkT t 1 = 0
  · rw [hc] at c1
    rw [if_pos hc]
    have hm := names_most hc
    have c2 := collect34 t.wt t (Nat.le_refl _) 1 hc ho (by omega) k (by omega)
    have hL := left_all (names_text t 1 hc)
    have hu := uniq_len (namesT t)
    generalize namesT t = l at *
    generalize uniq l = u at *
    have hlm : l.length ≤ maxLen := by unfold maxLen; omega
    have key : ∀ {lp : LP} (hlp : lp = lpOf Try.prog cfg (icall Try.prog cfg k) Try.f18.ntmps 18 k (([] : Hp).map (·.1))) (st : St), prune [] [3, 4, 5] st = some ⟨[(3, .d (.list (sL l))), (4, .nilsl), (5, .d (.str []))], []⟩ →
      loopK Try.prog cfg (icall Try.prog cfg k) lp Try.f18.ntmps 18 [] (bodyAt Try.f18 6) k st (exitP [] (some [4])) =
        (if u = [] then some (.exit 0, ⟨[(4, .nilsl)], []⟩) else some (.exit 0, ⟨[(4, .own (.slot 46) 0 (sL u).length)], [(.slot 46, .arr 9 1 0 (sL u))]⟩)) := fun hlp st hp => by
      have hin := fun (st : St) (hp : prune [] [3, 4, 5, 6, 7] st = some ⟨[(3, .d (.list (sL l))), (4, .nilsl), (5, .d (.str [])), (6, .d (.str [])), (7, .d (.int .i64 0))], []⟩) => inN k l [] hlm hlp l.length 0 0 [] k st rfl (Nat.zero_le _) rfl (by omega) hp
      simp only [List.drop_zero] at hin
      obtain ⟨lf, hlf⟩ : ∃ n, k = n + 1 := ⟨k - 1, by omega⟩
      suffices H : ∀ k', k' = lf + 1 → loopK Try.prog cfg (icall Try.prog cfg k) _ Try.f18.ntmps 18 [] (bodyAt Try.f18 6) k' st (exitP [] (some [4])) = _ from H k hlf
      intro k' hk'
      subst hk'
      refine loop_step hp ?_
      cases u with
      | nil =>
        simp only [left_nil hL] at hin
        rw [if_pos rfl]
        conv => lhs; whnf
        refine nextK_of (loop_at hlp (hin _ rfl)) ?_
        conv => lhs; whnf
        refine Eq.trans (b := some (Fx.exit (0 : Nat), St.mk [((4 : Nat), AV.nilsl)] [])) (by kernel_rfl) ?_
        rfl
      | cons x q =>
        obtain ⟨e1, e2, e3⟩ := left_cons hL
        simp only [e1] at hin
        rw [if_neg (by simp)]
        simp only [List.length_cons] at hu
        conv => lhs; whnf
        refine nextK_of (loop_at hlp (hin _ rfl)) ?_
        conv => lhs; whnf
        refine iteK_beq_f e2 ?_
        conv => lhs; whnf
        refine Eq.trans (outS k l hlm (by omega) hlp q x 1 [[.str x]] lf _ e3 rfl (by omega) (by omega) rfl) ?_
        rfl
    by_cases hu0 : u = []
    · subst hu0
      simp only [if_true] at key
      rw [icall_body rfl Try.func18]
      obtain ⟨lp, hlp⟩ : ∃ lp, lp = lpOf Try.prog cfg (icall Try.prog cfg k) Try.f18.ntmps 18 k (([] : Hp).map (·.1)) := ⟨_, rfl⟩
      rw [← hlp]
      conv => lhs; whnf
      refine nextK_of c1 ?_
      conv => lhs; whnf
      refine nextK_of c2 ?_
      conv => lhs; whnf
      refine nextK_of (loop_at hlp (key hlp _ rfl)) ?_
      conv => lhs; whnf
      refine Eq.trans (b := some (Res.ret (AV.d (D.list [])), [])) (by kernel_rfl) ?_
      rfl
    · simp only [if_neg hu0] at key
      have ht : List.take (sL u).length (sL u) = sL u := List.take_length
      rw [icall_body rfl Try.func18]
      obtain ⟨lp, hlp⟩ : ∃ lp, lp = lpOf Try.prog cfg (icall Try.prog cfg k) Try.f18.ntmps 18 k (([] : Hp).map (·.1)) := ⟨_, rfl⟩
      rw [← hlp]
      conv => lhs; whnf
      refine nextK_of c1 ?_
      conv => lhs; whnf
      refine nextK_of c2 ?_
      conv => lhs; whnf
      refine nextK_of (loop_at hlp (key hlp _ rfl)) ?_
      conv => lhs; whnf
      refine Eq.trans (b := some (Res.ret (AV.d (D.list (List.take (List.length (sL u)) (sL u)))), [])) (by kernel_rfl) ?_
      (exact congrArg (fun x => some (Res.ret (AV.d (D.list x)), ([] : Hp))) ht)
  · rw [if_neg hc]
    generalize checkT t 1 = e at c1 hc
    rw [icall_body rfl Try.func18]
    obtain ⟨lp, hlp⟩ : ∃ lp, lp = lpOf Try.prog cfg (icall Try.prog cfg k) Try.f18.ntmps 18 k (([] : Hp).map (·.1)) := ⟨_, rfl⟩
    rw [← hlp]
    conv => lhs; whnf
    refine nextK_of c1 ?_
    conv => lhs; whnf
    refine iteK_bne_t hc ?_
    conv => lhs; whnf
    refine Eq.trans (b := some (Res.ret (AV.d (D.list [])), [])) (by kernel_rfl) ?_
    rfl
end Go.Rx08
