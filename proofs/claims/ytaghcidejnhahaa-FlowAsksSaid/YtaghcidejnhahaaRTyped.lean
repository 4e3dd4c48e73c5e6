/- A part of the proof of the law: what functions of the program come to, walked by Rx, or plain facts on it. -/
import Derived.Test.YtaghcidejnhahaaRxCfg12
import Derived.Test.YtaghcidejnhahaaRCheck
import Derived.Test.YtaghcidejnhahaaRTypesA
import Derived.Test.YtaghcidejnhahaaRSpecB
open Go Go.Rx Go.Proofs Go.Rx12 Go.RxTree
set_option maxRecDepth 1000000
set_option maxHeartbeats 4000000
set_option linter.unusedVariables false
set_option linter.unusedSimpArgs false
namespace Go.Rx12
theorem check40L (j : Nat) (t : T) (d : Int) (hd : 0 ≤ d ∧ d ≤ 16) (hm : t.kids.length ≤ maxLen)
    (ih : ∀ x : T, x ∈ t.kids → icall Try.prog cfg j 80 [x.av, .d (.int .i64 (d + 1))] [] = some (.ret (.d (.int .i64 (checkT x (d + 1)))), [])) {lp : LP} (hlp : lp = lpOf Try.prog cfg (icall Try.prog cfg j) Try.f80.ntmps 80 j (([] : Hp).map (·.1))) :
    ∀ (m i : Nat) (z : Int)  (lf : Nat) (st : St), (t.kids).length - i = m → i ≤ (t.kids).length → z = (i : Int) → m < lf → prune [] [1, 2, 5] st = some ⟨[(1, .d (.int .i64 d)), (2, .ptr (.slot 2) 0), (5, .d (.int .i64 z))], [(.slot 2, .cells [.d (.int .i64 t.kind), .d (.int .i64 t.n), .d (.str t.name), .d (.list (cellsL t.kids))])]⟩ →
      loopK Try.prog cfg (icall Try.prog cfg j) lp Try.f80.ntmps 80 [] (bodyAt Try.f80 6) lf st (exitP [] (some [4])) = iteK (checkL (t.kids.drop i) (d + 1) == 0) (some (.exit 0, ⟨[(4, .undef)], []⟩)) (some (.ret, ⟨[(4, .d (.int .i64 (checkL (t.kids.drop i) (d + 1))))], []⟩)) := by
  intro m
  have hw : IntKind.i64.wrap (d + 1) = d + 1 := wrap_i64 (by omega) (by omega)
  induction m with
  | zero =>
    intro i z  lf st hi hle hz  hlf hp
    obtain ⟨lf, rfl⟩ : ∃ n, lf = n + 1 := ⟨lf - 1, by omega⟩
    refine loop_step hp ?_
    have hend : ¬ z < ((cellsL t.kids).length : Int) := by rw [cellsL_len]; omega
    rw [List.drop_eq_nil_of_le (by omega)]
    conv => lhs; whnf
    refine iteK_dec_f hend ?_
    conv => lhs; whnf
    refine Eq.trans (b := some (Fx.exit (0 : Nat), St.mk [((4 : Nat), AV.undef)] [])) (by kernel_rfl) ?_
    rfl
  | succ m ihm =>
    intro i z  lf st hi hle hz  hlf hp
    obtain ⟨lf, rfl⟩ : ∃ n, lf = n + 1 := ⟨lf - 1, by omega⟩
    refine loop_step hp ?_
    have hend : z < ((cellsL t.kids).length : Int) := by rw [cellsL_len]; omega
    have hx : t.kids[i]? = some t.kids[i] := List.getElem?_eq_getElem (by omega)
    generalize t.kids[i] = x at hx
    rw [checkL_drop hx]
    have hc := ih x (List.mem_of_getElem? hx)
    rw [← hw] at hc
    rw [← hw]
    conv => lhs; whnf
    refine iteK_dec_t hend ?_
    conv => lhs; whnf
    refine nextK_of (aop_ix rfl rfl rfl rfl (ixL_at' hz (cellsL_get _ _ _ hx) rfl)) ?_
    conv => lhs; whnf
    refine nextK_of hc ?_
    conv => lhs; whnf
    refine iteK_bne (fun h1 => ?_) (fun h1 => ?_)
    · rw [bne_t h1]
      conv => lhs; whnf
      refine Eq.trans (b := some (Fx.ret, St.mk [((4 : Nat), AV.d (D.int IntKind.i64 (checkT x (IntKind.wrap IntKind.i64 (d + (1 : Int))))))] [])) (by kernel_rfl) ?_
      (rw [if_neg (by assumption), iteK_f (beq_f (by assumption)) rfl])
    · rw [bne_f h1]
      conv => lhs; whnf
      refine Eq.trans (ihm (i + 1) _ lf _ (by omega) (by omega) (wrap_up hz (by omega)) (by omega) rfl) ?_
      (rw [if_pos (by assumption), hw])
theorem check40 : ∀ (m : Nat) (t : T) (d : Int), t.wt ≤ m → t.Sm → t.Ok → 0 ≤ d → d ≤ 17 → ∀ k, t.wt < k → icall Try.prog cfg k 80 [t.av, .d (.int .i64 d)] [] = some (.ret (.d (.int .i64 (checkT t d))), []) := by
  intro m
  induction m with
  | zero => intro t d h; rw [T.wt_eq] at h; omega
  | succ m ihm =>
  intro t d hm hsm hok hd0 hd1 k hk
  obtain ⟨x, n, s, l⟩ := t
  obtain ⟨hs, hsl⟩ := hsm
  obtain ⟨ho1, ho2, ho3, ho4, ho5⟩ := hok
  rw [T.wt] at hm hk
  have hwl := wtL_len l
  obtain ⟨k, rfl⟩ : ∃ j, k = j + 1 := ⟨k - 1, by omega⟩
  show icall Try.prog cfg _ _ [.agg [.d (.int .i64 x), .d (.int .i64 n), .d (.str s), .d (.list (cellsL l))], .d (.int .i64 d)] [] = _
  rw [icall_body rfl Try.func80]
  obtain ⟨lp, hlp⟩ : ∃ lp, lp = lpOf Try.prog cfg (icall Try.prog cfg k) Try.f80.ntmps 80 k (([] : Hp).map (·.1)) := ⟨_, rfl⟩
  rw [← hlp]
  conv => lhs; whnf
  refine iteK_dec (fun h1 => ?_) (fun h1 => ?_)
  · rw [dec_t h1]
    conv => lhs; whnf
    refine Eq.trans (b := some (Res.ret (AV.d (D.int IntKind.i64 (6 : Int))), [])) (by kernel_rfl) ?_
    exact ret_i (checkT_big (by omega)).symm
  · rw [dec_f h1]
    conv => lhs; whnf
    refine nextK_b (node78 x n s l hs k (by omega)) (fun h2 => ?_) (fun h2 => ?_)
    · conv => lhs; whnf
      refine nextK_ite (loop_at hlp (check40L k (.mk x n s l) d (by omega) ho4 (fun t ht => ihm t (d + 1) (by have := wtL_mem l t ht; omega) (SmL_mem hsl ht) (OkL_mem ho5 ht) (by omega) (by omega) k (by have := wtL_mem l t ht; omega)) hlp l.length 0 0 k _ rfl (Nat.zero_le _) rfl (by omega) rfl)) ?_
      conv => lhs; whnf
      refine iteK_beq (fun h3 => ?_) (fun h3 => ?_)
      · conv => lhs; whnf
        refine Eq.trans (b := some (Res.ret (AV.d (D.int IntKind.i64 (0 : Int))), [])) (by kernel_rfl) ?_
        exact ret_i ((checkT_go (by omega) (by assumption)).trans (by first | assumption | rfl)).symm
      · conv => lhs; whnf
        refine Eq.trans (b := some (Res.ret (AV.d (D.int IntKind.i64 (checkL (T.kids (T.mk x n s l)) (d + (1 : Int))))), [])) (by kernel_rfl) ?_
        exact ret_i ((checkT_go (by omega) (by assumption)).trans (by first | assumption | rfl)).symm
    · conv => lhs; whnf
      refine Eq.trans (b := some (Res.ret (AV.d (D.int IntKind.i64 (1 : Int))), [])) (by kernel_rfl) ?_
      exact ret_i (checkT_bad (by omega) (by assumption)).symm
theorem check38 (t : T) (hs : t.Sm) (ho : t.Ok) (k : Nat) (hk : t.wt + 1 < k) : icall Try.prog cfg k 72 [t.av] [] = some (.ret (.d (.int .i64 (checkT t 1))), []) := by
  obtain ⟨k, rfl⟩ : ∃ j, k = j + 1 := ⟨k - 1, by omega⟩
  show icall Try.prog cfg _ _ [.agg [.d (.int .i64 t.kind), .d (.int .i64 t.n), .d (.str t.name), .d (.list (cellsL t.kids))]] [] = _
  rw [icall_body rfl Try.func72]
  obtain ⟨lp, hlp⟩ : ∃ lp, lp = lpOf Try.prog cfg (icall Try.prog cfg k) Try.f72.ntmps 72 k (([] : Hp).map (·.1)) := ⟨_, rfl⟩
  rw [← hlp]
  conv => lhs; whnf
  refine nextK_of (check74 t.wt t 1 (Nat.le_refl _) hs ho (by omega) (by omega) k (by omega)) ?_
  conv => lhs; whnf
  refine Eq.trans (b := some (Res.ret (AV.d (D.int IntKind.i64 (checkT t (1 : Int)))), [])) (by kernel_rfl) ?_
  rfl
theorem check19 (t : T) (hs : t.Sm) (ho : t.Ok) (k : Nat) (hk : t.wt + 1 < k) : icall Try.prog cfg k 69 [t.av] [] = some (.ret (.d (.int .i64 (checkT t 1))), []) := by
  obtain ⟨k, rfl⟩ : ∃ j, k = j + 1 := ⟨k - 1, by omega⟩
  show icall Try.prog cfg _ _ [.agg [.d (.int .i64 t.kind), .d (.int .i64 t.n), .d (.str t.name), .d (.list (cellsL t.kids))]] [] = _
  rw [icall_body rfl Try.func69]
  obtain ⟨lp, hlp⟩ : ∃ lp, lp = lpOf Try.prog cfg (icall Try.prog cfg k) Try.f69.ntmps 69 k (([] : Hp).map (·.1)) := ⟨_, rfl⟩
  rw [← hlp]
  conv => lhs; whnf
  refine nextK_of (check40 t.wt t 1 (Nat.le_refl _) hs ho (by omega) (by omega) k (by omega)) ?_
  conv => lhs; whnf
  refine Eq.trans (b := some (Res.ret (AV.d (D.int IntKind.i64 (checkT t (1 : Int)))), [])) (by kernel_rfl) ?_
  rfl
theorem of87L (j : Nat) (l : List T) (o : Int) (hm : l.length ≤ maxLen)
    (ih : ∀ x : T, x ∈ l → icall Try.prog cfg j 73 [x.av] [] = some (.ret (.tuple [.d (.int .i64 (ofT x).1), .d (.int .i64 (ofT x).2)]), [])) {lp : LP} (hlp : lp = lpOf Try.prog cfg (icall Try.prog cfg j) Try.f73.ntmps 73 j (([] : Hp).map (·.1))) :
    ∀ (m i : Nat) (z : Int) (want : Int) (lf : Nat) (st : St), (l).length - i = m → i ≤ (l).length → z = (i : Int) → m < lf → prune [] [4, 5, 17, 18, 19] st = some ⟨[(4, .d (.int .i64 want)), (5, .d (.int .i64 o)), (17, .d (.list (cellsL l))), (18, .d (.int .i64 (cellsL l).length)), (19, .d (.int .i64 z))], []⟩ →
      loopK Try.prog cfg (icall Try.prog cfg j) lp Try.f73.ntmps 73 [] (bodyAt Try.f73 3) lf st (exitP [] (some [2, 3, 5])) = iteK ((ofL (l.drop i) (decide (i = 0)) want o).2 == 0) (some (.exit 0, ⟨[(2, .undef), (3, .undef), (5, .d (.int .i64 o))], []⟩)) (some (.ret, ⟨[(2, .d (.int .i64 (ofL (l.drop i) (decide (i = 0)) want o).1)), (3, .d (.int .i64 (ofL (l.drop i) (decide (i = 0)) want o).2)), (5, .d (.int .i64 o))], []⟩)) := by
  intro m
  induction m with
  | zero =>
    intro i z want lf st hi hle hz  hlf hp
    obtain ⟨lf, rfl⟩ : ∃ n, lf = n + 1 := ⟨lf - 1, by omega⟩
    refine loop_step hp ?_
    have hend : ¬ z < ((cellsL l).length : Int) := by rw [cellsL_len]; omega
    rw [List.drop_eq_nil_of_le (by omega)]
    conv => lhs; whnf
    refine iteK_dec_f hend ?_
    conv => lhs; whnf
    refine Eq.trans (b := some (Fx.exit (0 : Nat), St.mk [((2 : Nat), AV.undef), ((3 : Nat), AV.undef), ((5 : Nat), AV.d (D.int IntKind.i64 o))] [])) (by kernel_rfl) ?_
    rfl
  | succ m ihm =>
    intro i z want lf st hi hle hz  hlf hp
    obtain ⟨lf, rfl⟩ : ∃ n, lf = n + 1 := ⟨lf - 1, by omega⟩
    refine loop_step hp ?_
    have hend : z < ((cellsL l).length : Int) := by rw [cellsL_len]; omega
    have hx : l[i]? = some l[i] := List.getElem?_eq_getElem (by omega)
    generalize l[i] = x at hx
    have hc := ih x (List.mem_of_getElem? hx)
    have hn : decide (i + 1 = 0) = false := dec_f (by omega)
    conv => lhs; whnf
    refine iteK_dec_t hend ?_
    conv => lhs; whnf
    refine nextK_of (aop_ix rfl rfl rfl rfl (ixL_at' hz (cellsL_get _ _ _ hx) rfl)) ?_
    conv => lhs; whnf
    refine nextK_of hc ?_
    conv => lhs; whnf
    refine iteK_bne (fun h1 => ?_) (fun h1 => ?_)
    · rw [bne_t h1]
      conv => lhs; whnf
      refine Eq.trans (b := some (Fx.ret, St.mk [((2 : Nat), AV.d (D.int IntKind.i64 (0 : Int))), ((3 : Nat), AV.d (D.int IntKind.i64 (ofT x).2)), ((5 : Nat), AV.d (D.int IntKind.i64 o))] [])) (by kernel_rfl) ?_
      (rw [ofL_e hx (by assumption)]; exact (iteK_f (beq_f (by assumption)) rfl).symm)
    · rw [bne_f h1]
      conv => lhs; whnf
      refine iteK_beq (fun h2 => ?_) (fun h2 => ?_)
      · obtain rfl : z = (0 : Int) := h2
        conv => lhs; whnf
        refine iteK_dec (fun h3 => ?_) (fun h3 => ?_)
        · rw [dec_t h3]
          conv => lhs; whnf
          refine iteK_bne (fun h4 => ?_) (fun h4 => ?_)
          · rw [bne_t h4]
            (exfalso; omega)
          · rw [bne_f h4]
            conv => lhs; whnf
            refine Eq.trans (ihm (i + 1) _ _ lf _ (by omega) (by omega) (wrap_up hz (by omega)) (by omega) rfl) ?_
            (rw [ofL_f hx (by assumption) (by simp; omega), hn])
        · rw [dec_f h3]
          conv => lhs; whnf
          refine iteK_bne (fun h4 => ?_) (fun h4 => ?_)
          · rw [bne_t h4]
            conv => lhs; whnf
            refine Eq.trans (b := some (Fx.ret, St.mk [((2 : Nat), AV.d (D.int IntKind.i64 (0 : Int))), ((3 : Nat), AV.d (D.int IntKind.i64 (7 : Int))), ((5 : Nat), AV.d (D.int IntKind.i64 o))] [])) (by kernel_rfl) ?_
            (rw [ofL_7 hx (by assumption) (by simp; omega) (by assumption)]; rfl)
          · rw [bne_f h4]
            conv => lhs; whnf
            refine Eq.trans (ihm (i + 1) _ _ lf _ (by omega) (by omega) (wrap_up hz (by omega)) (by omega) rfl) ?_
            (rw [ofL_n hx (by assumption) (by simp; omega) (by assumption), hn])
      · rw [beq_f h2]
        conv => lhs; whnf
        refine iteK_bne (fun h3 => ?_) (fun h3 => ?_)
        · rw [bne_t h3]
          conv => lhs; whnf
          refine Eq.trans (b := some (Fx.ret, St.mk [((2 : Nat), AV.d (D.int IntKind.i64 (0 : Int))), ((3 : Nat), AV.d (D.int IntKind.i64 (7 : Int))), ((5 : Nat), AV.d (D.int IntKind.i64 o))] [])) (by kernel_rfl) ?_
          (rw [ofL_7 hx (by assumption) (by simp; omega) (by assumption)]; rfl)
        · rw [bne_f h3]
          conv => lhs; whnf
          refine Eq.trans (ihm (i + 1) _ _ lf _ (by omega) (by omega) (wrap_up hz (by omega)) (by omega) rfl) ?_
          (rw [ofL_n hx (by assumption) (by simp; omega) (by assumption), hn])
theorem of87 : ∀ (m : Nat) (t : T), t.wt ≤ m → t.Ok → ∀ k, t.wt < k → icall Try.prog cfg k 73 [t.av] [] = some (.ret (.tuple [.d (.int .i64 (ofT t).1), .d (.int .i64 (ofT t).2)]), []) := by
  intro m
  induction m with
  | zero => intro t h; rw [T.wt_eq] at h; omega
  | succ m ihm =>
  intro t hm hok k hk
  obtain ⟨x, n, s, l⟩ := t
  obtain ⟨ho1, ho2, ho3, ho4, ho5⟩ := hok
  rw [T.wt] at hm hk
  have hwl := wtL_len l
  obtain ⟨k, rfl⟩ : ∃ j, k = j + 1 := ⟨k - 1, by omega⟩
  show icall Try.prog cfg _ _ [.agg [.d (.int .i64 x), .d (.int .i64 n), .d (.str s), .d (.list (cellsL l))]] [] = _
  rw [icall_body rfl Try.func73]
  obtain ⟨lp, hlp⟩ : ∃ lp, lp = lpOf Try.prog cfg (icall Try.prog cfg k) Try.f73.ntmps 73 k (([] : Hp).map (·.1)) := ⟨_, rfl⟩
  rw [← hlp]
  rw [ofT]
  conv => lhs; whnf
  refine nextK_of (shape_w x k (by omega)) ?_
  conv => lhs; whnf
  refine nextK_ite (loop_at hlp (of87L k l (shapeP x).2 ho4 (fun t ht => ihm t (by have := wtL_mem l t ht; omega) (OkL_mem ho5 ht) k (by have := wtL_mem l t ht; omega)) hlp l.length 0 0 (shapeP x).1 k _ rfl (Nat.zero_le _) rfl (by omega) rfl)) ?_
  conv => lhs; whnf
  refine iteK_beq (fun h1 => ?_) (fun h1 => ?_)
  · conv => lhs; whnf
    refine Eq.trans (b := some (Res.ret (AV.tuple [AV.d (D.int IntKind.i64 (shapeP x).2), AV.d (D.int IntKind.i64 (0 : Int))]), [])) (by kernel_rfl) ?_
    (rw [List.drop_zero] at h1; rw [show true = decide (0 = 0) from rfl, ofL_ok l _ _ h1, h1])
  · conv => lhs; whnf
    refine Eq.trans (b := some (Res.ret (AV.tuple [AV.d (D.int IntKind.i64 (ofL (List.drop (0 : Nat) l) (decide ((0 : Nat) = (0 : Nat))) (shapeP x).fst (shapeP x).snd).1), AV.d (D.int IntKind.i64 (ofL (List.drop (0 : Nat) l) (decide ((0 : Nat) = (0 : Nat))) (shapeP x).fst (shapeP x).snd).2)]), [])) (by kernel_rfl) ?_
    rfl
theorem truth89 (x : Int) (k : Nat) (hk : 0 < k) : icall Try.prog cfg k 71 [.d (.int .i64 x)] [] = some (.ret (.d (.bool (truthK x))), []) := by
  obtain ⟨k, rfl⟩ : ∃ j, k = j + 1 := ⟨k - 1, by omega⟩
  rw [icall_body rfl Try.func71]
  obtain ⟨lp, hlp⟩ : ∃ lp, lp = lpOf Try.prog cfg (icall Try.prog cfg k) Try.f71.ntmps 71 k (([] : Hp).map (·.1)) := ⟨_, rfl⟩
  rw [← hlp]
  conv => lhs; whnf
  refine iteK_beq (fun h1 => ?_) (fun h1 => ?_)
  · obtain rfl : x = (3 : Int) := h1
    conv => lhs; whnf
    refine Eq.trans (b := some (Res.ret (AV.d (D.bool true)), [])) (by kernel_rfl) ?_
    rfl
  · rw [beq_f h1]
    conv => lhs; whnf
    refine iteK_beq (fun h2 => ?_) (fun h2 => ?_)
    · obtain rfl : x = (4 : Int) := h2
      conv => lhs; whnf
      refine Eq.trans (b := some (Res.ret (AV.d (D.bool true)), [])) (by kernel_rfl) ?_
      rfl
    · rw [beq_f h2]
      conv => lhs; whnf
      refine iteK_beq (fun h3 => ?_) (fun h3 => ?_)
      · obtain rfl : x = (6 : Int) := h3
        conv => lhs; whnf
        refine Eq.trans (b := some (Res.ret (AV.d (D.bool true)), [])) (by kernel_rfl) ?_
        rfl
      · rw [beq_f h3]
        conv => lhs; whnf
        refine iteK_beq (fun h4 => ?_) (fun h4 => ?_)
        · obtain rfl : x = (11 : Int) := h4
          conv => lhs; whnf
          refine Eq.trans (b := some (Res.ret (AV.d (D.bool true)), [])) (by kernel_rfl) ?_
          rfl
        · rw [beq_f h4]
          conv => lhs; whnf
          refine iteK_beq (fun h5 => ?_) (fun h5 => ?_)
          · obtain rfl : x = (12 : Int) := h5
            conv => lhs; whnf
            refine Eq.trans (b := some (Res.ret (AV.d (D.bool true)), [])) (by kernel_rfl) ?_
            rfl
          · rw [beq_f h5]
            conv => lhs; whnf
            refine iteK_beq (fun h6 => ?_) (fun h6 => ?_)
            · obtain rfl : x = (13 : Int) := h6
              conv => lhs; whnf
              refine Eq.trans (b := some (Res.ret (AV.d (D.bool true)), [])) (by kernel_rfl) ?_
              rfl
            · rw [beq_f h6]
              conv => lhs; whnf
              refine Eq.trans (b := some (Res.ret (AV.d (D.bool (x == (14 : Int)))), [])) (by kernel_rfl) ?_
              (refine ret_b ?_; unfold truthK; by_cases h : x = 14; (rw [beq_t h, dec_t (by omega)]); (rw [beq_f h, dec_f (by omega)]))
theorem k14 {k : Int} (h1 : k ≠ 6) (h2 : k ≠ 13) : (k == 14) = decide (k = 6 ∨ k = 13 ∨ k = 14) := by
  by_cases h : k = 14
  · rw [beq_t h, dec_t (by omega)]
  · rw [beq_f h, dec_f (by omega)]
theorem typed88L (j : Nat) (t : T) (hm : t.kids.length ≤ maxLen) (hj : 0 < j)
    (ih : ∀ x : T, x ∈ t.kids → icall Try.prog cfg j 70 [x.av] [] = some (.ret (.d (.bool (typedT x))), [])) {lp : LP} (hlp : lp = lpOf Try.prog cfg (icall Try.prog cfg j) Try.f70.ntmps 70 j (([] : Hp).map (·.1))) :
    ∀ (m i : Nat) (z : Int)  (lf : Nat) (st : St), (t.kids).length - i = m → i ≤ (t.kids).length → z = (i : Int) → m < lf → prune [] [1, 3] st = some ⟨[(1, .ptr (.slot 1) 0), (3, .d (.int .i64 z))], [(.slot 1, .cells [.d (.int .i64 t.kind), .d (.int .i64 t.n), .d (.str t.name), .d (.list (cellsL t.kids))])]⟩ →
      loopK Try.prog cfg (icall Try.prog cfg j) lp Try.f70.ntmps 70 [] (bodyAt Try.f70 2) lf st (exitP [] (some [2])) = iteK (typedL t.kind (t.kids.head?.map T.kind) (t.kids.drop i)) (some (.exit 0, ⟨[(2, .undef)], []⟩)) (some (.ret, ⟨[(2, .d (.bool false))], []⟩)) := by
  intro m
  induction m with
  | zero =>
    intro i z  lf st hi hle hz  hlf hp
    obtain ⟨lf, rfl⟩ : ∃ n, lf = n + 1 := ⟨lf - 1, by omega⟩
    refine loop_step hp ?_
    have hend : ¬ z < ((cellsL t.kids).length : Int) := by rw [cellsL_len]; omega
    rw [List.drop_eq_nil_of_le (by omega)]
    conv => lhs; whnf
    refine iteK_dec_f hend ?_
    conv => lhs; whnf
    refine Eq.trans (b := some (Fx.exit (0 : Nat), St.mk [((2 : Nat), AV.undef)] [])) (by kernel_rfl) ?_
    rfl
  | succ m ihm =>
    intro i z  lf st hi hle hz  hlf hp
    obtain ⟨lf, rfl⟩ : ∃ n, lf = n + 1 := ⟨lf - 1, by omega⟩
    refine loop_step hp ?_
    have hend : z < ((cellsL t.kids).length : Int) := by rw [cellsL_len]; omega
    have hx : t.kids[i]? = some t.kids[i] := List.getElem?_eq_getElem (by omega)
    have hy : t.kids[0]? = some t.kids[0] := List.getElem?_eq_getElem (by omega)
    have hf : t.kids.head?.map T.kind = some t.kids[0].kind := by rw [List.head?_eq_getElem?, hy]; rfl
    generalize t.kids[i] = x at hx
    generalize t.kids[0] = y at hy hf
    rw [hf]
    have hc := ih x (List.mem_of_getElem? hx)
    have cx := truth89 x.kind j hj
    have cy := truth89 y.kind j hj
    obtain ⟨bx, hbx⟩ : ∃ b, b = truthK x.kind := ⟨_, rfl⟩
    obtain ⟨bY, hbY⟩ : ∃ b, b = truthK y.kind := ⟨_, rfl⟩
    rw [← hbx] at cx
    rw [← hbY] at cy
    cases bx <;> cases bY
    · conv => lhs; whnf
      refine iteK_dec_t hend ?_
      conv => lhs; whnf
      refine nextK_of (aop_ix rfl rfl rfl rfl (ixL_at' hz (cellsL_get _ _ _ hx) rfl)) ?_
      conv => lhs; whnf
      refine nextK_b hc (fun h1 => ?_) (fun h1 => ?_)
      · conv => lhs; whnf
        refine nextK_of (aop_ix rfl rfl rfl rfl (ixL_at' hz (cellsL_get _ _ _ hx) rfl)) ?_
        conv => lhs; whnf
        refine nextK_of cx ?_
        conv => lhs; whnf
        refine iteK_beq (fun h2 => ?_) (fun h2 => ?_)
        · rw [beq_t h2]
          conv => lhs; whnf
          refine nextK_of (aop_ix rfl rfl rfl rfl (ixL_at' (n := 0) rfl (cellsL_get _ _ _ hy) rfl)) ?_
          conv => lhs; whnf
          refine nextK_of cy ?_
          conv => lhs; whnf
          refine Eq.trans (ihm (i + 1) _ lf _ (by omega) (by omega) (wrap_up hz (by omega)) (by omega) rfl) ?_
          (rw [typedL_3 hx (by assumption) (by assumption) (by show (truthK x.kind == truthK y.kind) = true; rw [← hbx, ← hbY]; rfl), hf])
        · rw [beq_f h2]
          conv => lhs; whnf
          refine iteK_beq (fun h3 => ?_) (fun h3 => ?_)
          · rw [beq_t h3]
            conv => lhs; whnf
            refine Eq.trans (b := some (Fx.ret, St.mk [((2 : Nat), AV.d (D.bool false))] [])) (by kernel_rfl) ?_
            (rw [typedL_4 hx (by assumption) (by rw [← hbx, dec_t (by omega)]; rfl)]; rfl)
          · rw [beq_f h3]
            conv => lhs; whnf
            refine iteK_beq (fun h4 => ?_) (fun h4 => ?_)
            · rw [beq_t h4]
              conv => lhs; whnf
              refine Eq.trans (b := some (Fx.ret, St.mk [((2 : Nat), AV.d (D.bool false))] [])) (by kernel_rfl) ?_
              (rw [typedL_4 hx (by assumption) (by rw [← hbx, dec_t (by omega)]; rfl)]; rfl)
            · rw [beq_f h4]
              conv => lhs; whnf
              refine iteK_not ?_
              conv => lhs; whnf
              refine iteK_beq (fun h5 => ?_) (fun h5 => ?_)
              · rw [beq_t h5]
                conv => lhs; whnf
                refine Eq.trans (ihm (i + 1) _ lf _ (by omega) (by omega) (wrap_up hz (by omega)) (by omega) rfl) ?_
                (simp only [ab_1, ab_2, ab_3, ab_4] at h5; rw [typedL_5 hx (by assumption) (by assumption) (by rw [← hbx, dec_f (by omega)]; rfl), hf])
              · rw [beq_f h5]
                conv => lhs; whnf
                refine Eq.trans (b := some (Fx.ret, St.mk [((2 : Nat), AV.d (D.bool false))] [])) (by kernel_rfl) ?_
                (simp only [ab_1, ab_2, ab_3, ab_4] at h5; rw [typedL_4 hx (by assumption) (by rw [← hbx, dec_t (by omega)]; rfl)]; rfl)
      · conv => lhs; whnf
        refine Eq.trans (b := some (Fx.ret, St.mk [((2 : Nat), AV.d (D.bool false))] [])) (by kernel_rfl) ?_
        (rw [typedL_1 hx (by assumption)]; rfl)
    · conv => lhs; whnf
      refine iteK_dec_t hend ?_
      conv => lhs; whnf
      refine nextK_of (aop_ix rfl rfl rfl rfl (ixL_at' hz (cellsL_get _ _ _ hx) rfl)) ?_
      conv => lhs; whnf
      refine nextK_b hc (fun h1 => ?_) (fun h1 => ?_)
      · conv => lhs; whnf
        refine nextK_of (aop_ix rfl rfl rfl rfl (ixL_at' hz (cellsL_get _ _ _ hx) rfl)) ?_
        conv => lhs; whnf
        refine nextK_of cx ?_
        conv => lhs; whnf
        refine iteK_beq (fun h2 => ?_) (fun h2 => ?_)
        · rw [beq_t h2]
          conv => lhs; whnf
          refine nextK_of (aop_ix rfl rfl rfl rfl (ixL_at' (n := 0) rfl (cellsL_get _ _ _ hy) rfl)) ?_
          conv => lhs; whnf
          refine nextK_of cy ?_
          conv => lhs; whnf
          refine Eq.trans (b := some (Fx.ret, St.mk [((2 : Nat), AV.d (D.bool false))] [])) (by kernel_rfl) ?_
          (rw [typedL_2 hx (by assumption) (by show (truthK x.kind == truthK y.kind) = false; rw [← hbx, ← hbY]; rfl)]; rfl)
        · rw [beq_f h2]
          conv => lhs; whnf
          refine iteK_beq (fun h3 => ?_) (fun h3 => ?_)
          · rw [beq_t h3]
            conv => lhs; whnf
            refine Eq.trans (b := some (Fx.ret, St.mk [((2 : Nat), AV.d (D.bool false))] [])) (by kernel_rfl) ?_
            (rw [typedL_4 hx (by assumption) (by rw [← hbx, dec_t (by omega)]; rfl)]; rfl)
          · rw [beq_f h3]
            conv => lhs; whnf
            refine iteK_beq (fun h4 => ?_) (fun h4 => ?_)
            · rw [beq_t h4]
              conv => lhs; whnf
              refine Eq.trans (b := some (Fx.ret, St.mk [((2 : Nat), AV.d (D.bool false))] [])) (by kernel_rfl) ?_
              (rw [typedL_4 hx (by assumption) (by rw [← hbx, dec_t (by omega)]; rfl)]; rfl)
            · rw [beq_f h4]
              conv => lhs; whnf
              refine iteK_not ?_
              conv => lhs; whnf
              refine iteK_beq (fun h5 => ?_) (fun h5 => ?_)
              · rw [beq_t h5]
                conv => lhs; whnf
                refine Eq.trans (ihm (i + 1) _ lf _ (by omega) (by omega) (wrap_up hz (by omega)) (by omega) rfl) ?_
                (simp only [ab_1, ab_2, ab_3, ab_4] at h5; rw [typedL_5 hx (by assumption) (by assumption) (by rw [← hbx, dec_f (by omega)]; rfl), hf])
              · rw [beq_f h5]
                conv => lhs; whnf
                refine Eq.trans (b := some (Fx.ret, St.mk [((2 : Nat), AV.d (D.bool false))] [])) (by kernel_rfl) ?_
                (simp only [ab_1, ab_2, ab_3, ab_4] at h5; rw [typedL_4 hx (by assumption) (by rw [← hbx, dec_t (by omega)]; rfl)]; rfl)
      · conv => lhs; whnf
        refine Eq.trans (b := some (Fx.ret, St.mk [((2 : Nat), AV.d (D.bool false))] [])) (by kernel_rfl) ?_
        (rw [typedL_1 hx (by assumption)]; rfl)
    · conv => lhs; whnf
      refine iteK_dec_t hend ?_
      conv => lhs; whnf
      refine nextK_of (aop_ix rfl rfl rfl rfl (ixL_at' hz (cellsL_get _ _ _ hx) rfl)) ?_
      conv => lhs; whnf
      refine nextK_b hc (fun h1 => ?_) (fun h1 => ?_)
      · conv => lhs; whnf
        refine nextK_of (aop_ix rfl rfl rfl rfl (ixL_at' hz (cellsL_get _ _ _ hx) rfl)) ?_
        conv => lhs; whnf
        refine nextK_of cx ?_
        conv => lhs; whnf
        refine iteK_beq (fun h2 => ?_) (fun h2 => ?_)
        · rw [beq_t h2]
          conv => lhs; whnf
          refine nextK_of (aop_ix rfl rfl rfl rfl (ixL_at' (n := 0) rfl (cellsL_get _ _ _ hy) rfl)) ?_
          conv => lhs; whnf
          refine nextK_of cy ?_
          conv => lhs; whnf
          refine Eq.trans (b := some (Fx.ret, St.mk [((2 : Nat), AV.d (D.bool false))] [])) (by kernel_rfl) ?_
          (rw [typedL_2 hx (by assumption) (by show (truthK x.kind == truthK y.kind) = false; rw [← hbx, ← hbY]; rfl)]; rfl)
        · rw [beq_f h2]
          conv => lhs; whnf
          refine iteK_beq (fun h3 => ?_) (fun h3 => ?_)
          · rw [beq_t h3]
            conv => lhs; whnf
            refine Eq.trans (ihm (i + 1) _ lf _ (by omega) (by omega) (wrap_up hz (by omega)) (by omega) rfl) ?_
            (rw [typedL_5 hx (by assumption) (by assumption) (by rw [← hbx, dec_t (by omega)]; rfl), hf])
          · rw [beq_f h3]
            conv => lhs; whnf
            refine iteK_beq (fun h4 => ?_) (fun h4 => ?_)
            · rw [beq_t h4]
              conv => lhs; whnf
              refine Eq.trans (ihm (i + 1) _ lf _ (by omega) (by omega) (wrap_up hz (by omega)) (by omega) rfl) ?_
              (rw [typedL_5 hx (by assumption) (by assumption) (by rw [← hbx, dec_t (by omega)]; rfl), hf])
            · rw [beq_f h4]
              conv => lhs; whnf
              refine iteK_not ?_
              conv => lhs; whnf
              refine iteK_beq (fun h5 => ?_) (fun h5 => ?_)
              · rw [beq_t h5]
                conv => lhs; whnf
                refine Eq.trans (ihm (i + 1) _ lf _ (by omega) (by omega) (wrap_up hz (by omega)) (by omega) rfl) ?_
                (simp only [ab_1, ab_2, ab_3, ab_4] at h5; rw [typedL_5 hx (by assumption) (by assumption) (by rw [← hbx, dec_t (by omega)]; rfl), hf])
              · rw [beq_f h5]
                conv => lhs; whnf
                refine Eq.trans (b := some (Fx.ret, St.mk [((2 : Nat), AV.d (D.bool false))] [])) (by kernel_rfl) ?_
                (simp only [ab_1, ab_2, ab_3, ab_4] at h5; rw [typedL_4 hx (by assumption) (by rw [← hbx, dec_f (by omega)]; rfl)]; rfl)
      · conv => lhs; whnf
        refine Eq.trans (b := some (Fx.ret, St.mk [((2 : Nat), AV.d (D.bool false))] [])) (by kernel_rfl) ?_
        (rw [typedL_1 hx (by assumption)]; rfl)
    · conv => lhs; whnf
      refine iteK_dec_t hend ?_
      conv => lhs; whnf
      refine nextK_of (aop_ix rfl rfl rfl rfl (ixL_at' hz (cellsL_get _ _ _ hx) rfl)) ?_
      conv => lhs; whnf
      refine nextK_b hc (fun h1 => ?_) (fun h1 => ?_)
      · conv => lhs; whnf
        refine nextK_of (aop_ix rfl rfl rfl rfl (ixL_at' hz (cellsL_get _ _ _ hx) rfl)) ?_
        conv => lhs; whnf
        refine nextK_of cx ?_
        conv => lhs; whnf
        refine iteK_beq (fun h2 => ?_) (fun h2 => ?_)
        · rw [beq_t h2]
          conv => lhs; whnf
          refine nextK_of (aop_ix rfl rfl rfl rfl (ixL_at' (n := 0) rfl (cellsL_get _ _ _ hy) rfl)) ?_
          conv => lhs; whnf
          refine nextK_of cy ?_
          conv => lhs; whnf
          refine Eq.trans (ihm (i + 1) _ lf _ (by omega) (by omega) (wrap_up hz (by omega)) (by omega) rfl) ?_
          (rw [typedL_3 hx (by assumption) (by assumption) (by show (truthK x.kind == truthK y.kind) = true; rw [← hbx, ← hbY]; rfl), hf])
        · rw [beq_f h2]
          conv => lhs; whnf
          refine iteK_beq (fun h3 => ?_) (fun h3 => ?_)
          · rw [beq_t h3]
            conv => lhs; whnf
            refine Eq.trans (ihm (i + 1) _ lf _ (by omega) (by omega) (wrap_up hz (by omega)) (by omega) rfl) ?_
            (rw [typedL_5 hx (by assumption) (by assumption) (by rw [← hbx, dec_t (by omega)]; rfl), hf])
          · rw [beq_f h3]
            conv => lhs; whnf
            refine iteK_beq (fun h4 => ?_) (fun h4 => ?_)
            · rw [beq_t h4]
              conv => lhs; whnf
              refine Eq.trans (ihm (i + 1) _ lf _ (by omega) (by omega) (wrap_up hz (by omega)) (by omega) rfl) ?_
              (rw [typedL_5 hx (by assumption) (by assumption) (by rw [← hbx, dec_t (by omega)]; rfl), hf])
            · rw [beq_f h4]
              conv => lhs; whnf
              refine iteK_not ?_
              conv => lhs; whnf
              refine iteK_beq (fun h5 => ?_) (fun h5 => ?_)
              · rw [beq_t h5]
                conv => lhs; whnf
                refine Eq.trans (ihm (i + 1) _ lf _ (by omega) (by omega) (wrap_up hz (by omega)) (by omega) rfl) ?_
                (simp only [ab_1, ab_2, ab_3, ab_4] at h5; rw [typedL_5 hx (by assumption) (by assumption) (by rw [← hbx, dec_t (by omega)]; rfl), hf])
              · rw [beq_f h5]
                conv => lhs; whnf
                refine Eq.trans (b := some (Fx.ret, St.mk [((2 : Nat), AV.d (D.bool false))] [])) (by kernel_rfl) ?_
                (simp only [ab_1, ab_2, ab_3, ab_4] at h5; rw [typedL_4 hx (by assumption) (by rw [← hbx, dec_f (by omega)]; rfl)]; rfl)
      · conv => lhs; whnf
        refine Eq.trans (b := some (Fx.ret, St.mk [((2 : Nat), AV.d (D.bool false))] [])) (by kernel_rfl) ?_
        (rw [typedL_1 hx (by assumption)]; rfl)
theorem typed88 : ∀ (m : Nat) (t : T), t.wt ≤ m → t.Ok → ∀ k, t.wt < k → icall Try.prog cfg k 70 [t.av] [] = some (.ret (.d (.bool (typedT t))), []) := by
  intro m
  induction m with
  | zero => intro t h; rw [T.wt_eq] at h; omega
  | succ m ihm =>
  intro t hm hok k hk
  obtain ⟨x, n, s, l⟩ := t
  obtain ⟨ho1, ho2, ho3, ho4, ho5⟩ := hok
  rw [T.wt] at hm hk
  have hwl := wtL_len l
  obtain ⟨k, rfl⟩ : ∃ j, k = j + 1 := ⟨k - 1, by omega⟩
  show icall Try.prog cfg _ _ [.agg [.d (.int .i64 x), .d (.int .i64 n), .d (.str s), .d (.list (cellsL l))]] [] = _
  rw [icall_body rfl Try.func70]
  obtain ⟨lp, hlp⟩ : ∃ lp, lp = lpOf Try.prog cfg (icall Try.prog cfg k) Try.f70.ntmps 70 k (([] : Hp).map (·.1)) := ⟨_, rfl⟩
  rw [← hlp]
  rw [typedT]
  conv => lhs; whnf
  refine nextK_ite (loop_at hlp (typed88L k (.mk x n s l) ho4 (by omega) (fun t ht => ihm t (by have := wtL_mem l t ht; omega) (OkL_mem ho5 ht) k (by have := wtL_mem l t ht; omega)) hlp l.length 0 0 k _ rfl (Nat.zero_le _) rfl (by omega) rfl)) ?_
  conv => lhs; whnf
  refine iteK_of (fun h1 => ?_) (fun h1 => ?_)
  · conv => lhs; whnf
    refine Eq.trans (b := some (Res.ret (AV.d (D.bool true)), [])) (by kernel_rfl) ?_
    exact ret_b (h1 : typedL x (l.head?.map T.kind) l = true).symm
  · conv => lhs; whnf
    refine Eq.trans (b := some (Res.ret (AV.d (D.bool false)), [])) (by kernel_rfl) ?_
    exact ret_b (h1 : typedL x (l.head?.map T.kind) l = false).symm
theorem truth85 (t : T) (hs : t.Sm) (ho : t.Ok) (k : Nat) (hk : t.wt + 2 < k) : icall Try.prog cfg k 57 [t.av] [] = some (.ret (.tuple [.d (.bool (truthP t).1), .d (.int .i64 (truthP t).2)]), []) := by
  obtain ⟨k, rfl⟩ : ∃ j, k = j + 1 := ⟨k - 1, by omega⟩
  show icall Try.prog cfg _ _ [.agg [.d (.int .i64 t.kind), .d (.int .i64 t.n), .d (.str t.name), .d (.list (cellsL t.kids))]] [] = _
  rw [icall_body rfl Try.func57]
  obtain ⟨lp, hlp⟩ : ∃ lp, lp = lpOf Try.prog cfg (icall Try.prog cfg k) Try.f57.ntmps 57 k (([] : Hp).map (·.1)) := ⟨_, rfl⟩
  rw [← hlp]
  conv => lhs; whnf
  refine nextK_of (check38 t hs ho k (by omega)) ?_
  conv => lhs; whnf
  refine iteK_bne (fun h1 => ?_) (fun h1 => ?_)
  · rw [bne_t h1]
    conv => lhs; whnf
    refine Eq.trans (b := some (Res.ret (AV.tuple [AV.d (D.bool false), AV.d (D.int IntKind.i64 (checkT t (1 : Int)))]), [])) (by kernel_rfl) ?_
    rw [truthP_e (by assumption)]
  · rw [bne_f h1]
    conv => lhs; whnf
    refine nextK_of (of87 t.wt t (Nat.le_refl _) ho k (by omega)) ?_
    conv => lhs; whnf
    refine Eq.trans (b := some (Res.ret (AV.tuple [AV.d (D.bool ((ofT t).fst == (1 : Int))), AV.d (D.int IntKind.i64 (ofT t).2)]), [])) (by kernel_rfl) ?_
    rw [truthP_of (by assumption)]
theorem truth86 (t : T) (hs : t.Sm) (ho : t.Ok) (k : Nat) (hk : t.wt + 2 < k) : icall Try.prog cfg k 56 [t.av] [] = some (.ret (.tuple [.d (.bool (truthP t).1), .d (.int .i64 (truthP t).2)]), []) := by
  obtain ⟨k, rfl⟩ : ∃ j, k = j + 1 := ⟨k - 1, by omega⟩
  show icall Try.prog cfg _ _ [.agg [.d (.int .i64 t.kind), .d (.int .i64 t.n), .d (.str t.name), .d (.list (cellsL t.kids))]] [] = _
  rw [icall_body rfl Try.func56]
  obtain ⟨lp, hlp⟩ : ∃ lp, lp = lpOf Try.prog cfg (icall Try.prog cfg k) Try.f56.ntmps 56 k (([] : Hp).map (·.1)) := ⟨_, rfl⟩
  rw [← hlp]
  conv => lhs; whnf
  refine nextK_of (check19 t hs ho k (by omega)) ?_
  conv => lhs; whnf
  refine iteK_bne (fun h1 => ?_) (fun h1 => ?_)
  · rw [bne_t h1]
    conv => lhs; whnf
    refine Eq.trans (b := some (Res.ret (AV.tuple [AV.d (D.bool false), AV.d (D.int IntKind.i64 (checkT t (1 : Int)))]), [])) (by kernel_rfl) ?_
    rw [truthP_e (by assumption)]
  · rw [bne_f h1]
    conv => lhs; whnf
    refine nextK_b (typed88 t.wt t (Nat.le_refl _) ho k (by omega)) (fun h2 => ?_) (fun h2 => ?_)
    · conv => lhs; whnf
      refine nextK_b (truth89 t.kind k (by omega)) (fun h3 => ?_) (fun h3 => ?_)
      · conv => lhs; whnf
        refine Eq.trans (b := some (Res.ret (AV.tuple [AV.d (D.bool true), AV.d (D.int IntKind.i64 (0 : Int))]), [])) (by kernel_rfl) ?_
        (rw [truthP_k (by assumption) (by assumption)]; simp only [h3])
      · conv => lhs; whnf
        refine Eq.trans (b := some (Res.ret (AV.tuple [AV.d (D.bool false), AV.d (D.int IntKind.i64 (0 : Int))]), [])) (by kernel_rfl) ?_
        (rw [truthP_k (by assumption) (by assumption)]; simp only [h3])
    · conv => lhs; whnf
      refine Eq.trans (b := some (Res.ret (AV.tuple [AV.d (D.bool false), AV.d (D.int IntKind.i64 (7 : Int))]), [])) (by kernel_rfl) ?_
      rw [truthP_7 (by assumption) (by assumption)]
end Go.Rx12
