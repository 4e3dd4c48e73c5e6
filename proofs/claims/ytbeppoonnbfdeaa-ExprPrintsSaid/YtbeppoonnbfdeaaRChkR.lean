/- A part of the proof of the law: what functions of the program come to, walked by Rx, or plain facts on it. -/
import Derived.Test.YtbeppoonnbfdeaaRxCfg07
import Derived.Test.YtbeppoonnbfdeaaRCheck
import Derived.Test.YtbeppoonnbfdeaaRSpecB
open Go Go.Rx Go.Proofs Go.Rx07 Go.RxTree
set_option maxRecDepth 1000000
set_option maxHeartbeats 4000000
set_option linter.unusedVariables false
set_option linter.unusedSimpArgs false
namespace Go.Rx07
theorem check40L (j : Nat) (t : T) (d : Int) (hd : 0 ≤ d ∧ d ≤ 16) (hm : t.kids.length ≤ maxLen)
    (ih : ∀ x : T, x ∈ t.kids → icall Try.prog cfg j 30 [x.av, .d (.int .i64 (d + 1))] [] = some (.ret (.d (.int .i64 (checkT x (d + 1)))), [])) {lp : LP} (hlp : lp = lpOf Try.prog cfg (icall Try.prog cfg j) Try.f30.ntmps 30 j (([] : Hp).map (·.1))) :
    ∀ (m i : Nat) (z : Int)  (lf : Nat) (st : St), (t.kids).length - i = m → i ≤ (t.kids).length → z = (i : Int) → m < lf → prune [] [1, 2, 5] st = some ⟨[(1, .d (.int .i64 d)), (2, .ptr (.slot 2) 0), (5, .d (.int .i64 z))], [(.slot 2, .cells [.d (.int .i64 t.kind), .d (.int .i64 t.n), .d (.str t.name), .d (.list (cellsL t.kids))])]⟩ →
      loopK Try.prog cfg (icall Try.prog cfg j) lp Try.f30.ntmps 30 [] (bodyAt Try.f30 6) lf st (exitP [] (some [4])) = iteK (checkL (t.kids.drop i) (d + 1) == 0) (some (.exit 0, ⟨[(4, .undef)], []⟩)) (some (.ret, ⟨[(4, .d (.int .i64 (checkL (t.kids.drop i) (d + 1))))], []⟩)) := by
  intro m
  have hw : IntKind.i64.wrap (d + 1) = d + 1 := wrap_i64 (by omega) (by omega)
  induction m with
  | zero =>
    intro i z  lf st hi hle hz  hlf hp
    obtain ⟨lf, rfl⟩ : ∃ n, lf = n + 1 := ⟨lf - 1, by omega⟩
    refine loop_step hp ?_
    have hend : ¬ z < ((cellsL t.kids).length : Int) := by rw [cellsL_len]; omega
    rw [List.drop_eq_nil_of_le (by omega)]
    conv => lhs; whnf
    refine iteK_dec_f hend ?_
    conv => lhs; whnf
    refine Eq.trans (b := some (Fx.exit (0 : Nat), St.mk [((4 : Nat), AV.undef)] [])) (by kernel_rfl) ?_
    rfl
  | succ m ihm =>
    intro i z  lf st hi hle hz  hlf hp
    obtain ⟨lf, rfl⟩ : ∃ n, lf = n + 1 := ⟨lf - 1, by omega⟩
    refine loop_step hp ?_
    have hend : z < ((cellsL t.kids).length : Int) := by rw [cellsL_len]; omega
    have hx : t.kids[i]? = some t.kids[i] := List.getElem?_eq_getElem (by omega)
    generalize t.kids[i] = x at hx
    rw [checkL_drop hx]
    have hc := ih x (List.mem_of_getElem? hx)
    rw [← hw] at hc
    rw [← hw]
    conv => lhs; whnf
    refine iteK_dec_t hend ?_
    conv => lhs; whnf
    refine nextK_of (aop_ix rfl rfl rfl rfl (ixL_at' hz (cellsL_get _ _ _ hx) rfl)) ?_
    conv => lhs; whnf
    refine nextK_of hc ?_
    conv => lhs; whnf
    refine iteK_bne (fun h1 => ?_) (fun h1 => ?_)
    · rw [bne_t h1]
      conv => lhs; whnf
      refine Eq.trans (b := some (Fx.ret, St.mk [((4 : Nat), AV.d (D.int IntKind.i64 (checkT x (IntKind.wrap IntKind.i64 (d + (1 : Int))))))] [])) (by kernel_rfl) ?_
      (rw [if_neg (by assumption), iteK_f (beq_f (by assumption)) rfl])
    · rw [bne_f h1]
      conv => lhs; whnf
      refine Eq.trans (ihm (i + 1) _ lf _ (by omega) (by omega) (wrap_up hz (by omega)) (by omega) rfl) ?_
      (rw [if_pos (by assumption), hw])
theorem check40 : ∀ (m : Nat) (t : T) (d : Int), t.wt ≤ m → t.Sm → t.Ok → 0 ≤ d → d ≤ 17 → ∀ k, t.wt < k → icall Try.prog cfg k 30 [t.av, .d (.int .i64 d)] [] = some (.ret (.d (.int .i64 (checkT t d))), []) := by
  intro m
  induction m with
  | zero => intro t d h; rw [T.wt_eq] at h; omega
  | succ m ihm =>
  intro t d hm hsm hok hd0 hd1 k hk
  obtain ⟨x, n, s, l⟩ := t
  obtain ⟨hs, hsl⟩ := hsm
  obtain ⟨ho1, ho2, ho3, ho4, ho5⟩ := hok
  rw [T.wt] at hm hk
  have hwl := wtL_len l
  obtain ⟨k, rfl⟩ : ∃ j, k = j + 1 := ⟨k - 1, by omega⟩
  show icall Try.prog cfg _ _ [.agg [.d (.int .i64 x), .d (.int .i64 n), .d (.str s), .d (.list (cellsL l))], .d (.int .i64 d)] [] = _
  rw [icall_body rfl Try.func30]
  obtain ⟨lp, hlp⟩ : ∃ lp, lp = lpOf Try.prog cfg (icall Try.prog cfg k) Try.f30.ntmps 30 k (([] : Hp).map (·.1)) := ⟨_, rfl⟩
  rw [← hlp]
  conv => lhs; whnf
  refine iteK_dec (fun h1 => ?_) (fun h1 => ?_)
  · rw [dec_t h1]
    conv => lhs; whnf
    refine Eq.trans (b := some (Res.ret (AV.d (D.int IntKind.i64 (6 : Int))), [])) (by kernel_rfl) ?_
    exact ret_i (checkT_big (by omega)).symm
  · rw [dec_f h1]
    conv => lhs; whnf
    refine nextK_b (node78 x n s l hs k (by omega)) (fun h2 => ?_) (fun h2 => ?_)
    · conv => lhs; whnf
      refine nextK_ite (loop_at hlp (check40L k (.mk x n s l) d (by omega) ho4 (fun t ht => ihm t (d + 1) (by have := wtL_mem l t ht; omega) (SmL_mem hsl ht) (OkL_mem ho5 ht) (by omega) (by omega) k (by have := wtL_mem l t ht; omega)) hlp l.length 0 0 k _ rfl (Nat.zero_le _) rfl (by omega) rfl)) ?_
      conv => lhs; whnf
      refine iteK_beq (fun h3 => ?_) (fun h3 => ?_)
      · conv => lhs; whnf
        refine Eq.trans (b := some (Res.ret (AV.d (D.int IntKind.i64 (0 : Int))), [])) (by kernel_rfl) ?_
        exact ret_i ((checkT_go (by omega) (by assumption)).trans (by first | assumption | rfl)).symm
      · conv => lhs; whnf
        refine Eq.trans (b := some (Res.ret (AV.d (D.int IntKind.i64 (checkL (T.kids (T.mk x n s l)) (d + (1 : Int))))), [])) (by kernel_rfl) ?_
        exact ret_i ((checkT_go (by omega) (by assumption)).trans (by first | assumption | rfl)).symm
    · conv => lhs; whnf
      refine Eq.trans (b := some (Res.ret (AV.d (D.int IntKind.i64 (1 : Int))), [])) (by kernel_rfl) ?_
      exact ret_i (checkT_bad (by omega) (by assumption)).symm
theorem check38 (t : T) (hs : t.Sm) (ho : t.Ok) (k : Nat) (hk : t.wt + 1 < k) : icall Try.prog cfg k 16 [t.av] [] = some (.ret (.d (.int .i64 (checkT t 1))), []) := by
  obtain ⟨k, rfl⟩ : ∃ j, k = j + 1 := ⟨k - 1, by omega⟩
  show icall Try.prog cfg _ _ [.agg [.d (.int .i64 t.kind), .d (.int .i64 t.n), .d (.str t.name), .d (.list (cellsL t.kids))]] [] = _
  rw [icall_body rfl Try.func16]
  obtain ⟨lp, hlp⟩ : ∃ lp, lp = lpOf Try.prog cfg (icall Try.prog cfg k) Try.f16.ntmps 16 k (([] : Hp).map (·.1)) := ⟨_, rfl⟩
  rw [← hlp]
  conv => lhs; whnf
  refine nextK_of (check74 t.wt t 1 (Nat.le_refl _) hs ho (by omega) (by omega) k (by omega)) ?_
  conv => lhs; whnf
  refine Eq.trans (b := some (Res.ret (AV.d (D.int IntKind.i64 (checkT t (1 : Int)))), [])) (by kernel_rfl) ?_
  rfl
theorem check19 (t : T) (hs : t.Sm) (ho : t.Ok) (k : Nat) (hk : t.wt + 1 < k) : icall Try.prog cfg k 17 [t.av] [] = some (.ret (.d (.int .i64 (checkT t 1))), []) := by
  obtain ⟨k, rfl⟩ : ∃ j, k = j + 1 := ⟨k - 1, by omega⟩
  show icall Try.prog cfg _ _ [.agg [.d (.int .i64 t.kind), .d (.int .i64 t.n), .d (.str t.name), .d (.list (cellsL t.kids))]] [] = _
  rw [icall_body rfl Try.func17]
  obtain ⟨lp, hlp⟩ : ∃ lp, lp = lpOf Try.prog cfg (icall Try.prog cfg k) Try.f17.ntmps 17 k (([] : Hp).map (·.1)) := ⟨_, rfl⟩
  rw [← hlp]
  conv => lhs; whnf
  refine nextK_of (check40 t.wt t 1 (Nat.le_refl _) hs ho (by omega) (by omega) k (by omega)) ?_
  conv => lhs; whnf
  refine Eq.trans (b := some (Res.ret (AV.d (D.int IntKind.i64 (checkT t (1 : Int)))), [])) (by kernel_rfl) ?_
  rfl
end Go.Rx07
