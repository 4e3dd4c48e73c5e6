/- A part of the proof of the law: what functions of the program come to, walked by Rx, or plain facts on it. -/
import Derived.Test.YtghiaobecppbeaaRLawFolds
import Derived.Test.YtghiaobecppbeaaRSpecSt
import Derived.Test.YtghiaobecppbeaaRRef4
open Go Go.Rx Go.Proofs Go.Rx08 Go.RxTree
set_option maxRecDepth 1000000
set_option maxHeartbeats 4000000
set_option linter.unusedVariables false
set_option linter.unusedSimpArgs false
namespace Go.Rx08
theorem stL (j : Nat) (t : T) (l : List (List UInt8)) (hm : l.length ≤ maxLen)
    (ih : ∀ n : List UInt8, n ∈ l → icall Try.prog cfg j 21 [t.av, .d (.str n)] [] = some (.ret (.d (.bool true)), [])) {lp : LP} (hlp : lp = lpOf Try.prog cfg (icall Try.prog cfg j) Try.f6.ntmps 6 j (([] : Hp).map (·.1))) :
    ∀ (m i : Nat) (z : Int)  (lf : Nat) (st : St), (l).length - i = m → i ≤ (l).length → z = (i : Int) → m < lf → prune [] [1, 11, 12] st = some ⟨[(1, .ptr (.slot 1) 0), (11, .d (.list (sL l))), (12, .d (.int .i64 z))], [ex1 t]⟩ →
      loopK Try.prog cfg (icall Try.prog cfg j) lp Try.f6.ntmps 6 [] (bodyAt Try.f6 13) lf st (exitP [] (some [2])) = some (.exit 0, ⟨[(2, .undef)], []⟩) := by
  intro m
  induction m with
  | zero =>
    intro i z  lf st hi hle hz  hlf hp
    obtain ⟨lf, rfl⟩ : ∃ n, lf = n + 1 := ⟨lf - 1, by omega⟩
    refine loop_step hp ?_
    have hend : ¬ z < ((sL l).length : Int) := by rw [sL_len]; omega
    conv => lhs; whnf
    refine iteK_dec_f hend ?_
    conv => lhs; whnf
    refine Eq.trans (b := some (Fx.exit (0 : Nat), St.mk [((2 : Nat), AV.undef)] [])) (by kernel_rfl) ?_
    rfl
  | succ m ihm =>
    intro i z  lf st hi hle hz  hlf hp
    obtain ⟨lf, rfl⟩ : ∃ n, lf = n + 1 := ⟨lf - 1, by omega⟩
    refine loop_step hp ?_
    have hend : z < ((sL l).length : Int) := by rw [sL_len]; omega
    have hx0 : l[i]? = some l[i] := List.getElem?_eq_getElem (by omega)
    generalize l[i] = x at hx0
    have hx : (sL l)[i]? = some [.str x] := by simp [sL, hx0]
    have hc := ih x (List.mem_of_getElem? hx0)
    conv => lhs; whnf
    refine iteK_dec_t hend ?_
    conv => lhs; whnf
    refine iteO_t (by kernel_rfl) ?_
    conv => lhs; whnf
    refine nextK_of (aop_ix rfl rfl rfl rfl (ixL_at' hz hx rfl)) ?_
    conv => lhs; whnf
    refine nextK_of hc ?_
    conv => lhs; whnf
    refine iteO_t (by kernel_rfl) ?_
    conv => lhs; whnf
    refine Eq.trans (ihm (i + 1) _ lf _ (by omega) (by omega) (wrap_up hz (by omega)) (by omega) rfl) ?_
    rfl
theorem stay_law {t f : T} {e : Int} (ho : t.Ok) (h : foldP t = (f, e)) (he : e = 0) : f.Ok ∧ f.Sm ∧ truthP t = (truthK t.kind, 0) ∧ truthP f = (truthK t.kind, 0) ∧ foldP f = (f, 0) ∧ ∀ n ∈ nmP f, asksT n t = true := by
  subst he
  have hfo := foldP_ok t ho
  rw [h] at hfo
  have h0 : (truthP t).2 = 0 := by
    unfold foldP at h
    by_cases h1 : (truthP t).2 = 0
    · exact h1
    · rw [if_pos h1] at h; injection h
  obtain ⟨h1, h2⟩ := truthP_0 h0
  have hf : f = foldT t := by
    unfold foldP at h; rw [if_neg (by omega)] at h; injection h with h; exact h.symm
  obtain ⟨s1, s2, s3, s4, s5⟩ := stay_all t.wt t 1 (Nat.le_refl _) ho h1 h2
  rw [← hf] at s1 s2 s3 s4 s5
  have e1 := truthP_k h1 h2
  have e2 := truthP_k s1 s2
  refine ⟨hfo, check_sm f 1 s1, e1, by rw [e2, s3], ?_, fun n hn => ?_⟩
  · unfold foldP; rw [e2, if_neg (by simp), s4]
  · unfold nmP at hn
    rw [if_pos s1] at hn
    exact names_asks t (s5 n (((uniq_ok _).2 n).1 hn))
theorem law6 (t : T) (ho : t.Ok) (hs : t.Sm) (k : Nat) (hk : t.wt + (foldP t).1.wt + 70100 < k) : icall Try.prog cfg k 6 [t.av] [] = some (.ret (.d (.bool true)), []) := by
  obtain ⟨k, rfl⟩ : ∃ j, k = j + 1 := ⟨k - 1, by omega⟩
  show icall Try.prog cfg _ _ [exA t] [] = _
  have c1 := fold19 t hs ho k (by omega)
  have c0 := light9 t ho k (by omega)
  have wk := works10 k (by omega)
  obtain ⟨v, hv⟩ : ∃ v, foldP t = v := ⟨_, rfl⟩
  obtain ⟨f, e⟩ := v
  have hst := @stay_law t f e ho hv
  rw [hv] at c1 hk
  have hk : t.wt + f.wt + 70100 < k + 1 := hk
  by_cases he : e = 0
  · obtain ⟨g1, gs, g2, g3, g4, g5⟩ := hst he
    subst he
    have hfs : f.Sm := gs
    have c2 := truth85 t hs ho k (by omega)
    have c3 := truth85 f hfs g1 k (by omega)
    have c4 := fold19 f hfs g1 k (by omega)
    rw [g2] at c2
    rw [g3] at c3
    rw [g4] at c4
    have c5 := same15 f.wt f f (Nat.le_refl _) g1 k (by omega)
    rw [sameT_refl] at c5
    have c6 := names17 f hfs g1 k (by omega)
    have hn : (nmP f).length ≤ 65536 := by
      unfold nmP
      split
      · rename_i h; exact Nat.le_trans (uniq_len _) (names_most h)
      · simp
    have c7 : ∀ n : List UInt8, n ∈ nmP f → icall Try.prog cfg k 21 [t.av, .d (.str n)] [] = some (.ret (.d (.bool true)), []) := fun n hn => by
      have := asks21 n t ho k (by omega)
      rw [g5 n hn] at this; exact this
    generalize nmP f = l at *
    generalize truthK t.kind = b at *
    rw [icall_body rfl Try.func6]
    obtain ⟨lp, hlp⟩ : ∃ lp, lp = lpOf Try.prog cfg (icall Try.prog cfg k) Try.f6.ntmps 6 k (([] : Hp).map (·.1)) := ⟨_, rfl⟩
    rw [← hlp]
    conv => lhs; whnf
    refine nextK_b c0 (fun h1 => ?_) (fun h1 => ?_)
    · conv => lhs; whnf
      refine nextK_of c1 ?_
      conv => lhs; whnf
      refine nextK_of c2 ?_
      conv => lhs; whnf
      refine nextK_of c3 ?_
      conv => lhs; whnf
      refine nextK_of c4 ?_
      conv => lhs; whnf
      refine iteK_not ?_
      conv => lhs; whnf
      refine iteK_beq (fun h2 => ?_) (fun h2 => ?_)
      · rw [beq_t h2]
        conv => lhs; whnf
        refine nextK_of c5 ?_
        conv => lhs; whnf
        refine nextK_of c6 ?_
        conv => lhs; whnf
        refine nextK_of (loop_at hlp (stL k t l (by unfold maxLen; omega) c7 hlp l.length 0 0 k _ rfl (Nat.zero_le _) rfl (by omega) rfl)) ?_
        conv => lhs; whnf
        refine nextK_of wk ?_
        conv => lhs; whnf
        refine Eq.trans (b := some (Res.ret (AV.d (D.bool true)), [])) (by kernel_rfl) ?_
        rfl
      · rw [beq_f h2]
        conv => lhs; whnf
        refine Eq.trans (b := some (Res.ret (AV.d (D.bool false)), [])) (by kernel_rfl) ?_
        exact absurd rfl (by assumption)
    · conv => lhs; whnf
      refine nextK_of wk ?_
      conv => lhs; whnf
      refine Eq.trans (b := some (Res.ret (AV.d (D.bool true)), [])) (by kernel_rfl) ?_
      rfl
  · rw [icall_body rfl Try.func6]
    obtain ⟨lp, hlp⟩ : ∃ lp, lp = lpOf Try.prog cfg (icall Try.prog cfg k) Try.f6.ntmps 6 k (([] : Hp).map (·.1)) := ⟨_, rfl⟩
    rw [← hlp]
    conv => lhs; whnf
    refine nextK_b c0 (fun h1 => ?_) (fun h1 => ?_)
    · conv => lhs; whnf
      refine nextK_of c1 ?_
      conv => lhs; whnf
      refine iteK_bne_t he ?_
      conv => lhs; whnf
      refine nextK_of wk ?_
      conv => lhs; whnf
      refine Eq.trans (b := some (Res.ret (AV.d (D.bool true)), [])) (by kernel_rfl) ?_
      rfl
    · conv => lhs; whnf
      refine nextK_of wk ?_
      conv => lhs; whnf
      refine Eq.trans (b := some (Res.ret (AV.d (D.bool true)), [])) (by kernel_rfl) ?_
      rfl
end Go.Rx08
