/- A part of the proof of the law: what functions of the program come to, walked by Rx, or plain facts on it. -/
import Derived.Test.YtaghcidejnhahaaRxCfg12
import Derived.Test.YtaghcidejnhahaaRSpecW
open Go Go.Rx Go.Proofs Go.Rx12 Go.RxTree
set_option maxRecDepth 1000000
set_option maxHeartbeats 4000000
set_option linter.unusedVariables false
set_option linter.unusedSimpArgs false
namespace Go.Rx12
theorem weigh36L (j : Nat) (t : T) (most deep : Int) (hm : t.kids.length ≤ maxLen) (hok : OkL t.kids) (hmo : 0 ≤ most ∧ most ≤ 1099511627776) (hd : t.kids.length ≠ 0 → 1 ≤ deep ∧ deep ≤ 30)
    (ih : ∀ x : T, x ∈ t.kids → ∀ q : Int, 0 ≤ q → q ≤ 1099511627776 → icall Try.prog cfg j 50 [x.av, .d (.int .i64 q), .d (.int .i64 (deep - 1))] [] = some (.ret (.d (.int .i64 (weighT x q (deep - 1)))), [])) {lp : LP} (hlp : lp = lpOf Try.prog cfg (icall Try.prog cfg j) Try.f50.ntmps 50 j (([] : Hp).map (·.1))) :
    ∀ (m i : Nat) (z : Int) (n : Int) (lf : Nat) (st : St), (t.kids).length - i = m → i ≤ (t.kids).length → z = (i : Int) → 1 ≤ n → n ≤ most + wB → m < lf → prune [] [1, 2, 3, 7, 8] st = some ⟨[(1, .d (.int .i64 most)), (2, .d (.int .i64 deep)), (3, .ptr (.slot 3) 0), (7, .d (.int .i64 n)), (8, .d (.int .i64 z))], [(.slot 3, .cells [.d (.int .i64 t.kind), .d (.int .i64 t.n), .d (.str t.name), .d (.list (cellsL t.kids))])]⟩ →
      loopK Try.prog cfg (icall Try.prog cfg j) lp Try.f50.ntmps 50 [] (bodyAt Try.f50 3) lf st (exitP [] (some [6, 7])) = some (.exit 0, ⟨[(6, .undef), (7, .d (.int .i64 (weighL (t.kids.drop i) most deep n)))], []⟩) := by
  intro m
  induction m with
  | zero =>
    intro i z n lf st hi hle hz hn1 hn2 hlf hp
    obtain ⟨lf, rfl⟩ : ∃ n, lf = n + 1 := ⟨lf - 1, by omega⟩
    refine loop_step hp ?_
    have hend : ¬ z < ((cellsL t.kids).length : Int) := by rw [cellsL_len]; omega
    rw [List.drop_eq_nil_of_le (by omega)]
    conv => lhs; whnf
    refine iteK_dec_f hend ?_
    conv => lhs; whnf
    refine iteK_dec_f hend ?_
    conv => lhs; whnf
    refine iteK_dec_f hend ?_
    conv => lhs; whnf
    refine iteK_dec_f hend ?_
    conv => lhs; whnf
    refine Eq.trans (b := some (Fx.exit (0 : Nat), St.mk [((6 : Nat), AV.undef), ((7 : Nat), AV.d (D.int IntKind.i64 n))] [])) (by kernel_rfl) ?_
    rfl
  | succ m ihm =>
    intro i z n lf st hi hle hz hn1 hn2 hlf hp
    obtain ⟨lf, rfl⟩ : ∃ n, lf = n + 1 := ⟨lf - 1, by omega⟩
    refine loop_step hp ?_
    have hend : z < ((cellsL t.kids).length : Int) := by rw [cellsL_len]; omega
    have hx : t.kids[i]? = some t.kids[i] := List.getElem?_eq_getElem (by omega)
    generalize t.kids[i] = x at hx
    have hb := fun h => weighT_b x (most - n) (deep - 1) (OkL_mem hok (List.mem_of_getElem? hx)) h
    have hc := ih x (List.mem_of_getElem? hx)
    have hd := hd (by omega)
    have hB : wB = 288230376151711744 := rfl
    have e1 : IntKind.i64.wrap (deep - 1) = deep - 1 := wrap_i64 (by omega) (by omega)
    have e2 : IntKind.i64.wrap (most - n) = most - n := wrap_i64 (by omega) (by omega)
    rw [← e1, ← e2] at hb
    rw [← e1] at hc
    conv => lhs; whnf
    refine iteK_dec_t hend ?_
    conv => lhs; whnf
    refine iteK_dec_t hend ?_
    conv => lhs; whnf
    refine iteK_dec_t hend ?_
    conv => lhs; whnf
    refine iteK_dec_t hend ?_
    conv => lhs; whnf
    refine iteK_dec (fun h1 => ?_) (fun h1 => ?_)
    · rw [dec_t h1]
      conv => lhs; whnf
      refine iteK_beq (fun h2 => ?_) (fun h2 => ?_)
      · obtain rfl : deep = (0 : Int) := h2
        (exfalso; omega)
      · rw [beq_f h2]
        conv => lhs; whnf
        refine nextK_of (aop_ix rfl rfl rfl rfl (ixL_at' hz (cellsL_get _ _ _ hx) rfl)) ?_
        conv => lhs; whnf
        refine nextK_of (hc (IntKind.i64.wrap (most - n)) (by omega) (by omega)) ?_
        conv => lhs; whnf
        refine Eq.trans (ihm (i + 1) _ _ lf _ (by omega) (by omega) (wrap_up hz (by omega)) (by have := hb (by omega); rw [wrap_i64 (by omega) (by omega)]; omega) (by have := hb (by omega); rw [wrap_i64 (by omega) (by omega)]; omega) (by omega) rfl) ?_
        (have := hb (by omega); rw [weighL_drop hx, if_pos (by omega), if_neg (by omega), wrap_i64 (by omega) (by omega), e1, e2])
    · rw [dec_f h1]
      conv => lhs; whnf
      refine Eq.trans (b := some (Fx.exit (0 : Nat), St.mk [((6 : Nat), AV.undef), ((7 : Nat), AV.d (D.int IntKind.i64 n))] [])) (by kernel_rfl) ?_
      (rw [weighL_stop (by omega)])
theorem weigh36Z (j : Nat) (t : T) (most n : Int) (hm : t.kids.length ≤ maxLen) (hl : t.kids.length ≠ 0) {lp : LP} (lf : Nat) (hlf : 0 < lf) (st : St)
    (hp : prune [] [1, 2, 3, 7, 8] st = some ⟨[(1, .d (.int .i64 most)), (2, .d (.int .i64 0)), (3, .ptr (.slot 3) 0), (7, .d (.int .i64 n)), (8, .d (.int .i64 0))], [(.slot 3, .cells [.d (.int .i64 t.kind), .d (.int .i64 t.n), .d (.str t.name), .d (.list (cellsL t.kids))])]⟩) :
    loopK Try.prog cfg (icall Try.prog cfg j) lp Try.f50.ntmps 50 [] (bodyAt Try.f50 3) lf st (exitP [] (some [6, 7])) =
      iteK (decide (n ≤ most)) (some (.ret, ⟨[(6, .d (.int .i64 (IntKind.i64.wrap (most + 1)))), (7, .d (.int .i64 n))], []⟩)) (some (.exit 0, ⟨[(6, .undef), (7, .d (.int .i64 n))], []⟩)) := by
  obtain ⟨lf, rfl⟩ : ∃ n, lf = n + 1 := ⟨lf - 1, by omega⟩
  refine loop_step hp ?_
  have hend : (0 : Int) < ((cellsL t.kids).length : Int) := by rw [cellsL_len]; omega
  conv => lhs; whnf
  refine iteK_dec_t hend ?_
  conv => lhs; whnf
  refine iteK_dec_t hend ?_
  conv => lhs; whnf
  refine iteK_dec_t hend ?_
  conv => lhs; whnf
  refine iteK_dec_t hend ?_
  conv => lhs; whnf
  refine iteK_dec (fun h1 => ?_) (fun h1 => ?_)
  · rw [dec_t h1]
    conv => lhs; whnf
    refine Eq.trans (b := some (Fx.ret, St.mk [((6 : Nat), AV.d (D.int IntKind.i64 (IntKind.wrap IntKind.i64 (most + (1 : Int))))), ((7 : Nat), AV.d (D.int IntKind.i64 n))] [])) (by kernel_rfl) ?_
    rw [iteK_true]
  · rw [dec_f h1]
    conv => lhs; whnf
    refine Eq.trans (b := some (Fx.exit (0 : Nat), St.mk [((6 : Nat), AV.undef), ((7 : Nat), AV.d (D.int IntKind.i64 n))] [])) (by kernel_rfl) ?_
    rw [iteK_false]
theorem weighL_0 {l : List T} {most n : Int} (hl : l.length ≠ 0) : weighL l most 0 n = if n ≤ most then most + 1 else n := by
  cases l with
  | nil => exact absurd rfl hl
  | cons t r => rw [weighL, if_pos rfl]
theorem weigh36 : ∀ (m : Nat) (t : T) (most deep : Int), t.wt ≤ m → t.Ok → 0 ≤ most → most ≤ 1099511627776 → 0 ≤ deep → deep ≤ 30 → ∀ k, t.wt < k → icall Try.prog cfg k 50 [t.av, .d (.int .i64 most), .d (.int .i64 deep)] [] = some (.ret (.d (.int .i64 (weighT t most deep))), []) := by
  intro m
  induction m with
  | zero => intro t most deep h; rw [T.wt_eq] at h; omega
  | succ m ihm =>
  intro t most deep hm hok g1 g2 g3 g4 k hk
  obtain ⟨x, n, s, l⟩ := t
  obtain ⟨ho1, ho2, ho3, ho4, ho5⟩ := hok
  rw [T.wt] at hm hk
  have hwl := wtL_len l
  have hq := name_q s ho3 40 (by omega)
  have hB : wB = 288230376151711744 := rfl
  have e0 : IntKind.i64.wrap (Int.tdiv (s.length : Int) 40) = (s.length : Int) / 40 := by rw [Int.tdiv_eq_ediv_of_nonneg (by omega)]; exact wrap_i64 (by omega) (by omega)
  have e1 : IntKind.i64.wrap (1 + (s.length : Int) / 40) = 1 + (s.length : Int) / 40 := wrap_i64 (by omega) (by omega)
  have e2 : IntKind.i64.wrap (1 + IntKind.i64.wrap (Int.tdiv (s.length : Int) 40)) = 1 + (s.length : Int) / 40 := by rw [e0, e1]
  obtain ⟨k, rfl⟩ : ∃ j, k = j + 1 := ⟨k - 1, by omega⟩
  show icall Try.prog cfg _ _ [.agg [.d (.int .i64 x), .d (.int .i64 n), .d (.str s), .d (.list (cellsL l))], _, _] [] = _
  rw [icall_body rfl Try.func50]
  obtain ⟨lp, hlp⟩ : ∃ lp, lp = lpOf Try.prog cfg (icall Try.prog cfg k) Try.f50.ntmps 50 k (([] : Hp).map (·.1)) := ⟨_, rfl⟩
  rw [← hlp]
  rw [weighT]
  by_cases hz : deep = 0 ∧ l.length ≠ 0
  · obtain ⟨rfl, hl⟩ := hz
    rw [weighL_0 hl]
    conv => lhs; whnf
    refine nextK_ite (loop_at hlp (weigh36Z k (.mk x n s l) most _ ho4 hl k (by omega) _ rfl)) ?_
    conv => lhs; whnf
    refine iteK_dec (fun h1 => ?_) (fun h1 => ?_)
    · conv => lhs; whnf
      refine Eq.trans (b := some (Res.ret (AV.d (D.int IntKind.i64 (IntKind.wrap IntKind.i64 (most + (1 : Int))))), [])) (by kernel_rfl) ?_
      exact ret_i (by rw [if_pos (by omega)]; exact wrap_i64 (by omega) (by omega))
    · conv => lhs; whnf
      refine Eq.trans (b := some (Res.ret (AV.d (D.int IntKind.i64 (IntKind.wrap IntKind.i64 ((1 : Int) + IntKind.wrap IntKind.i64 (Int.tdiv ↑(List.length s) (40 : Int)))))), [])) (by kernel_rfl) ?_
      exact ret_i (by rw [if_neg (by omega)]; omega)
  · conv => lhs; whnf
    refine nextK_of (loop_at hlp (weigh36L k (.mk x n s l) most deep ho4 ho5 ⟨g1, g2⟩ (fun h => ⟨by have : l.length ≠ 0 := h; omega, g4⟩) (fun t ht q q1 q2 => ihm t q (deep - 1) (by have := wtL_mem l t ht; omega) (OkL_mem ho5 ht) q1 q2 (by have : l.length ≠ 0 := (fun h => by rw [List.eq_nil_of_length_eq_zero h] at ht; cases ht); omega) (by omega) k (by have := wtL_mem l t ht; omega)) hlp l.length 0 0 _ k _ rfl (Nat.zero_le _) rfl (by omega) (by omega) (by omega) rfl)) ?_
    conv => lhs; whnf
    refine Eq.trans (b := some (Res.ret (AV.d (D.int IntKind.i64 (weighL (T.kids (T.mk x n s l)) most deep (IntKind.wrap IntKind.i64 ((1 : Int) + IntKind.wrap IntKind.i64 (Int.tdiv ↑(List.length s) (40 : Int))))))), [])) (by kernel_rfl) ?_
    exact ret_i (by rw [e0, e1]; rfl)
theorem weight14 (t : T) (most : Int) (ho : t.Ok) (h1 : 0 ≤ most) (h2 : most ≤ 1099511627776) (k : Nat) (hk : t.wt + 1 < k) : icall Try.prog cfg k 38 [t.av, .d (.int .i64 most)] [] = some (.ret (.d (.int .i64 (weighT t most 30))), []) := by
  obtain ⟨k, rfl⟩ : ∃ j, k = j + 1 := ⟨k - 1, by omega⟩
  show icall Try.prog cfg _ _ [.agg [.d (.int .i64 t.kind), .d (.int .i64 t.n), .d (.str t.name), .d (.list (cellsL t.kids))], _] [] = _
  rw [icall_body rfl Try.func38]
  obtain ⟨lp, hlp⟩ : ∃ lp, lp = lpOf Try.prog cfg (icall Try.prog cfg k) Try.f38.ntmps 38 k (([] : Hp).map (·.1)) := ⟨_, rfl⟩
  rw [← hlp]
  conv => lhs; whnf
  refine nextK_of (weigh36 t.wt t most 30 (Nat.le_refl _) ho h1 h2 (by omega) (by omega) k (by omega)) ?_
  conv => lhs; whnf
  refine Eq.trans (b := some (Res.ret (AV.d (D.int IntKind.i64 (weighT t most (30 : Int)))), [])) (by kernel_rfl) ?_
  rfl
end Go.Rx12
