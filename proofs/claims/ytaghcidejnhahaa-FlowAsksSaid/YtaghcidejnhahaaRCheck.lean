/- A part of the proof of the law: what functions of the program come to, walked by Rx, or plain facts on it. -/
import Derived.Test.YtaghcidejnhahaaRxCfg12
import Derived.Test.YtaghcidejnhahaaRName
open Go Go.Rx Go.Proofs Go.Rx12 Go.RxTree
set_option maxRecDepth 1000000
set_option maxHeartbeats 4000000
set_option linter.unusedVariables false
set_option linter.unusedSimpArgs false
namespace Go.Rx12
theorem node78 (x n : Int) (s : List UInt8) (l : List T) (hs : s.length ≤ 140737488351232) (k : Nat) (hk : s.length + 3 < k) : icall Try.prog cfg k 84 [.agg [.d (.int .i64 x), .d (.int .i64 n), .d (.str s), .d (.list (cellsL l))]] [] = some (.ret (.d (.bool (nodeOk x n s l.length))), []) := by
  obtain ⟨k, rfl⟩ : ∃ j, k = j + 1 := ⟨k - 1, by omega⟩
  have hl := cellsL_len l
  rw [icall_body rfl Try.func84]
  obtain ⟨lp, hlp⟩ : ∃ lp, lp = lpOf Try.prog cfg (icall Try.prog cfg k) Try.f84.ntmps 84 k (([] : Hp).map (·.1)) := ⟨_, rfl⟩
  rw [← hlp]
  conv => lhs; whnf
  refine iteK_dec (fun h1 => ?_) (fun h1 => ?_)
  · rw [dec_t h1]
    conv => lhs; whnf
    refine iteK_dec (fun h2 => ?_) (fun h2 => ?_)
    · rw [dec_t h2]
      conv => lhs; whnf
      refine iteK_beq (fun h3 => ?_) (fun h3 => ?_)
      · obtain rfl : x = (5 : Int) := h3
        (exfalso; omega)
      · rw [beq_f h3]
        conv => lhs; whnf
        refine iteK_beq (fun h4 => ?_) (fun h4 => ?_)
        · obtain rfl : x = (6 : Int) := h4
          (exfalso; omega)
        · rw [beq_f h4]
          conv => lhs; whnf
          refine iteK_dec (fun h5 => ?_) (fun h5 => ?_)
          · rw [dec_t h5]
            (exfalso; omega)
          · rw [dec_f h5]
            conv => lhs; whnf
            refine iteK_dec (fun h6 => ?_) (fun h6 => ?_)
            · rw [dec_t h6]
              (exfalso; omega)
            · rw [dec_f h6]
              conv => lhs; whnf
              refine iteK_bne (fun h7 => ?_) (fun h7 => ?_)
              · rw [bne_t h7]
                conv => lhs; whnf
                refine Eq.trans (b := some (Res.ret (AV.d (D.bool false)), [])) (by kernel_rfl) ?_
                exact ret_b (nodeOk_f (by omega)).symm
              · rw [bne_f h7]
                conv => lhs; whnf
                refine iteK_dec (fun h8 => ?_) (fun h8 => ?_)
                · rw [dec_t h8]
                  conv => lhs; whnf
                  refine Eq.trans (b := some (Res.ret (AV.d (D.bool false)), [])) (by kernel_rfl) ?_
                  exact ret_b (nodeOk_f (by omega)).symm
                · rw [dec_f h8]
                  conv => lhs; whnf
                  refine iteK_dec (fun h9 => ?_) (fun h9 => ?_)
                  · rw [dec_t h9]
                    conv => lhs; whnf
                    refine iteK_bne (fun h10 => ?_) (fun h10 => ?_)
                    · rw [bne_t h10]
                      conv => lhs; whnf
                      refine Eq.trans (b := some (Res.ret (AV.d (D.bool false)), [])) (by kernel_rfl) ?_
                      exact ret_b (nodeOk_f (by omega)).symm
                    · obtain rfl : x = (1 : Int) := h10
                      conv => lhs; whnf
                      refine Eq.trans (b := some (Res.ret (AV.d (D.bool (s == (ByteArray.mk #[]).data.toList))), [])) (by kernel_rfl) ?_
                      exact ret_b ((nodeOk_t (by omega)).trans (textOk_n (by omega))).symm
                  · rw [dec_f h9]
                    conv => lhs; whnf
                    refine iteK_beq (fun h10 => ?_) (fun h10 => ?_)
                    · obtain rfl : x = (2 : Int) := h10
                      conv => lhs; whnf
                      refine nextK_b (refName_w s (by unfold lim; omega) k (by omega)) (fun h11 => ?_) (fun h11 => ?_)
                      · conv => lhs; whnf
                        refine iteK_not ?_
                        conv => lhs; whnf
                        refine iteK_beq (fun h12 => ?_) (fun h12 => ?_)
                        · obtain rfl : s = [(121 : UInt8), (101 : UInt8), (115 : UInt8)] := h12
                          conv => lhs; whnf
                          refine Eq.trans (b := some (Res.ret (AV.d (D.bool false)), [])) (by kernel_rfl) ?_
                          exact ret_b ((nodeOk_t (by omega)).trans (textOk_4 rfl)).symm
                        · rw [beq_f h12]
                          conv => lhs; whnf
                          refine Eq.trans (b := some (Res.ret (AV.d (D.bool !s == (ByteArray.mk #[(110 : UInt8), (111 : UInt8)]).data.toList)), [])) (by kernel_rfl) ?_
                          (refine ret_b ((nodeOk_t (by omega)).trans ?_).symm; rw [textOk_v]; simp [*])
                      · conv => lhs; whnf
                        refine Eq.trans (b := some (Res.ret (AV.d (D.bool false)), [])) (by kernel_rfl) ?_
                        exact ret_b ((nodeOk_t (by omega)).trans (textOk_3 (by assumption))).symm
                    · rw [beq_f h10]
                      conv => lhs; whnf
                      refine Eq.trans (b := some (Res.ret (AV.d (D.bool (s == (ByteArray.mk #[]).data.toList))), [])) (by kernel_rfl) ?_
                      exact ret_b ((nodeOk_t (by omega)).trans (textOk_n (by omega))).symm
    · rw [dec_f h2]
      conv => lhs; whnf
      refine iteK_beq (fun h3 => ?_) (fun h3 => ?_)
      · obtain rfl : x = (5 : Int) := h3
        conv => lhs; whnf
        refine iteK_bne (fun h4 => ?_) (fun h4 => ?_)
        · rw [bne_t h4]
          conv => lhs; whnf
          refine Eq.trans (b := some (Res.ret (AV.d (D.bool false)), [])) (by kernel_rfl) ?_
          exact ret_b (nodeOk_f (by omega)).symm
        · rw [bne_f h4]
          conv => lhs; whnf
          refine iteK_dec (fun h5 => ?_) (fun h5 => ?_)
          · rw [dec_t h5]
            conv => lhs; whnf
            refine Eq.trans (b := some (Res.ret (AV.d (D.bool false)), [])) (by kernel_rfl) ?_
            exact ret_b (nodeOk_f (by omega)).symm
          · rw [dec_f h5]
            conv => lhs; whnf
            refine iteK_dec (fun h6 => ?_) (fun h6 => ?_)
            · rw [dec_t h6]
              conv => lhs; whnf
              refine Eq.trans (b := some (Res.ret (AV.d (D.bool false)), [])) (by kernel_rfl) ?_
              exact ret_b (nodeOk_f (by omega)).symm
            · rw [dec_f h6]
              conv => lhs; whnf
              refine Eq.trans (b := some (Res.ret (AV.d (D.bool (s == (ByteArray.mk #[]).data.toList))), [])) (by kernel_rfl) ?_
              exact ret_b ((nodeOk_t (by omega)).trans (textOk_n (by omega))).symm
      · rw [beq_f h3]
        conv => lhs; whnf
        refine iteK_beq (fun h4 => ?_) (fun h4 => ?_)
        · obtain rfl : x = (6 : Int) := h4
          conv => lhs; whnf
          refine iteK_bne (fun h5 => ?_) (fun h5 => ?_)
          · rw [bne_t h5]
            conv => lhs; whnf
            refine Eq.trans (b := some (Res.ret (AV.d (D.bool false)), [])) (by kernel_rfl) ?_
            exact ret_b (nodeOk_f (by omega)).symm
          · rw [bne_f h5]
            conv => lhs; whnf
            refine iteK_dec (fun h6 => ?_) (fun h6 => ?_)
            · rw [dec_t h6]
              conv => lhs; whnf
              refine Eq.trans (b := some (Res.ret (AV.d (D.bool false)), [])) (by kernel_rfl) ?_
              exact ret_b (nodeOk_f (by omega)).symm
            · rw [dec_f h6]
              conv => lhs; whnf
              refine iteK_dec (fun h7 => ?_) (fun h7 => ?_)
              · rw [dec_t h7]
                conv => lhs; whnf
                refine Eq.trans (b := some (Res.ret (AV.d (D.bool false)), [])) (by kernel_rfl) ?_
                exact ret_b (nodeOk_f (by omega)).symm
              · rw [dec_f h7]
                conv => lhs; whnf
                refine Eq.trans (b := some (Res.ret (AV.d (D.bool (s == (ByteArray.mk #[]).data.toList))), [])) (by kernel_rfl) ?_
                exact ret_b ((nodeOk_t (by omega)).trans (textOk_n (by omega))).symm
        · rw [beq_f h4]
          conv => lhs; whnf
          refine iteK_dec (fun h5 => ?_) (fun h5 => ?_)
          · rw [dec_t h5]
            (exfalso; omega)
          · rw [dec_f h5]
            conv => lhs; whnf
            refine iteK_dec (fun h6 => ?_) (fun h6 => ?_)
            · rw [dec_t h6]
              conv => lhs; whnf
              refine Eq.trans (b := some (Res.ret (AV.d (D.bool false)), [])) (by kernel_rfl) ?_
              exact ret_b (nodeOk_f (by omega)).symm
            · rw [dec_f h6]
              conv => lhs; whnf
              refine iteK_bne (fun h7 => ?_) (fun h7 => ?_)
              · rw [bne_t h7]
                conv => lhs; whnf
                refine Eq.trans (b := some (Res.ret (AV.d (D.bool false)), [])) (by kernel_rfl) ?_
                exact ret_b (nodeOk_f (by omega)).symm
              · rw [bne_f h7]
                conv => lhs; whnf
                refine iteK_dec (fun h8 => ?_) (fun h8 => ?_)
                · rw [dec_t h8]
                  conv => lhs; whnf
                  refine Eq.trans (b := some (Res.ret (AV.d (D.bool false)), [])) (by kernel_rfl) ?_
                  exact ret_b (nodeOk_f (by omega)).symm
                · rw [dec_f h8]
                  conv => lhs; whnf
                  refine iteK_dec (fun h9 => ?_) (fun h9 => ?_)
                  · rw [dec_t h9]
                    conv => lhs; whnf
                    refine iteK_bne (fun h10 => ?_) (fun h10 => ?_)
                    · rw [bne_t h10]
                      conv => lhs; whnf
                      refine Eq.trans (b := some (Res.ret (AV.d (D.bool false)), [])) (by kernel_rfl) ?_
                      exact ret_b (nodeOk_f (by omega)).symm
                    · obtain rfl : x = (1 : Int) := h10
                      (exfalso; omega)
                  · rw [dec_f h9]
                    conv => lhs; whnf
                    refine iteK_beq (fun h10 => ?_) (fun h10 => ?_)
                    · obtain rfl : x = (2 : Int) := h10
                      (exfalso; omega)
                    · rw [beq_f h10]
                      conv => lhs; whnf
                      refine Eq.trans (b := some (Res.ret (AV.d (D.bool (s == (ByteArray.mk #[]).data.toList))), [])) (by kernel_rfl) ?_
                      exact ret_b ((nodeOk_t (by omega)).trans (textOk_n (by omega))).symm
  · rw [dec_f h1]
    conv => lhs; whnf
    refine iteK_beq (fun h2 => ?_) (fun h2 => ?_)
    · obtain rfl : x = (5 : Int) := h2
      (exfalso; omega)
    · rw [beq_f h2]
      conv => lhs; whnf
      refine iteK_beq (fun h3 => ?_) (fun h3 => ?_)
      · obtain rfl : x = (6 : Int) := h3
        (exfalso; omega)
      · rw [beq_f h3]
        conv => lhs; whnf
        refine iteK_dec (fun h4 => ?_) (fun h4 => ?_)
        · rw [dec_t h4]
          conv => lhs; whnf
          refine Eq.trans (b := some (Res.ret (AV.d (D.bool false)), [])) (by kernel_rfl) ?_
          exact ret_b (nodeOk_f (by omega)).symm
        · rw [dec_f h4]
          (exfalso; omega)
theorem check74L (j : Nat) (l : List T) (d : Int) {lp : LP} (hl : lp = lpOf Try.prog cfg (icall Try.prog cfg j) Try.f81.ntmps 81 j (([] : Hp).map (·.1))) (hd : 0 ≤ d ∧ d ≤ 16) (hm : l.length ≤ maxLen)
    (ih : ∀ t : T, t ∈ l → icall Try.prog cfg j 81 [t.av, .d (.int .i64 (d + 1))] [] = some (.ret (.d (.int .i64 (checkT t (d + 1)))), [])) :
    ∀ (m i : Nat) (z : Int) (lf : Nat) (st : St), l.length - i = m → i ≤ l.length → z = (i : Int) → m < lf → prune [] [1, 82, 83, 84] st = some ⟨[(1, .d (.int .i64 d)), (82, .d (.list (cellsL l))), (83, .d (.int .i64 (cellsL l).length)), (84, .d (.int .i64 z))], []⟩ →
      loopK Try.prog cfg (icall Try.prog cfg j) lp Try.f81.ntmps 81 [] (bodyAt Try.f81 20) lf st (exitP [] (some [4])) =
        iteK (checkL (l.drop i) (d + 1) == 0) (some (.exit 2, ⟨[(4, .undef)], []⟩)) (some (.ret, ⟨[(4, .d (.int .i64 (checkL (l.drop i) (d + 1))))], []⟩)) := by
  intro m
  have hw : IntKind.i64.wrap (d + 1) = d + 1 := wrap_i64 (by omega) (by omega)
  induction m with
  | zero =>
    intro i z lf st hi hle hz hlf hp
    obtain ⟨n, rfl⟩ : ∃ n, lf = n + 1 := ⟨lf - 1, by omega⟩
    refine loop_step hp ?_
    have hend : ¬ z < ((cellsL l).length : Int) := by rw [cellsL_len]; omega
    rw [List.drop_eq_nil_of_le (by omega)]
    conv => lhs; whnf
    refine iteK_dec_f hend ?_
    conv => lhs; whnf
    refine Eq.trans (b := some (Fx.exit (2 : Nat), St.mk [((4 : Nat), AV.undef)] [])) (by kernel_rfl) ?_
    rfl
  | succ m ihm =>
    intro i z lf st hi hle hz hlf hp
    obtain ⟨n, rfl⟩ : ∃ n, lf = n + 1 := ⟨lf - 1, by omega⟩
    refine loop_step hp ?_
    have hend : z < ((cellsL l).length : Int) := by rw [cellsL_len]; omega
    have hx : l[i]? = some l[i] := List.getElem?_eq_getElem (by omega)
    generalize l[i] = t at hx
    rw [checkL_drop hx]
    have hc := ih t (List.mem_of_getElem? hx)
    rw [← hw] at hc
    rw [← hw]
    conv => lhs; whnf
    refine iteK_dec_t hend ?_
    conv => lhs; whnf
    refine nextK_of (aop_ix rfl rfl rfl rfl (ixL_at' hz (cellsL_get _ _ _ hx) rfl)) ?_
    conv => lhs; whnf
    refine nextK_of hc ?_
    conv => lhs; whnf
    refine iteK_bne (fun h1 => ?_) (fun h1 => ?_)
    · rw [bne_t h1]
      conv => lhs; whnf
      refine Eq.trans (b := some (Fx.ret, St.mk [((4 : Nat), AV.d (D.int IntKind.i64 (checkT t (IntKind.wrap IntKind.i64 (d + (1 : Int))))))] [])) (by kernel_rfl) ?_
      (rw [if_neg (by assumption), iteK_f (beq_f (by assumption)) rfl])
    · rw [bne_f h1]
      conv => lhs; whnf
      refine Eq.trans (ihm (i + 1) _ n _ (by omega) (by omega) (wrap_up hz (by omega)) (by omega) rfl) ?_
      (rw [if_pos (by assumption), hw])
theorem check74 : ∀ (m : Nat) (t : T) (d : Int), t.wt ≤ m → t.Sm → t.Ok → 0 ≤ d → d ≤ 17 → ∀ k, t.wt < k → icall Try.prog cfg k 81 [t.av, .d (.int .i64 d)] [] = some (.ret (.d (.int .i64 (checkT t d))), []) := by
  intro m
  induction m with
  | zero => intro t d h; rw [T.wt_eq] at h; omega
  | succ m ihm =>
  intro t d hm hsm hok hd0 hd1 k hk
  obtain ⟨x, n, s, l⟩ := t
  obtain ⟨hs, hsl⟩ := hsm
  obtain ⟨ho1, ho2, ho3, ho4, ho5⟩ := hok
  rw [T.wt] at hm hk
  have hl := cellsL_len l
  have hwl := wtL_len l
  obtain ⟨k, rfl⟩ : ∃ j, k = j + 1 := ⟨k - 1, by omega⟩
  show icall Try.prog cfg _ _ [.agg [.d (.int .i64 x), .d (.int .i64 n), .d (.str s), .d (.list (cellsL l))], .d (.int .i64 d)] [] = _
  rw [icall_body rfl Try.func81]
  obtain ⟨lp, hlp⟩ : ∃ lp, lp = lpOf Try.prog cfg (icall Try.prog cfg k) Try.f81.ntmps 81 k (([] : Hp).map (·.1)) := ⟨_, rfl⟩
  rw [← hlp]
  conv => lhs; whnf
  refine iteK_dec (fun h1 => ?_) (fun h1 => ?_)
  · rw [dec_t h1]
    conv => lhs; whnf
    refine Eq.trans (b := some (Res.ret (AV.d (D.int IntKind.i64 (6 : Int))), [])) (by kernel_rfl) ?_
    exact ret_i (checkT_big (by omega)).symm
  · rw [dec_f h1]
    conv => lhs; whnf
    refine iteK_beq (fun h2 => ?_) (fun h2 => ?_)
    · obtain rfl : x = (1 : Int) := h2
      conv => lhs; whnf
      refine iteK_bne (fun h3 => ?_) (fun h3 => ?_)
      · rw [bne_t h3]
        conv => lhs; whnf
        refine Eq.trans (b := some (Res.ret (AV.d (D.int IntKind.i64 (1 : Int))), [])) (by kernel_rfl) ?_
        exact ret_i (checkT_bad (by omega) (nodeOk_f (by omega))).symm
      · rw [bne_f h3]
        conv => lhs; whnf
        refine iteK_dec (fun h4 => ?_) (fun h4 => ?_)
        · rw [dec_t h4]
          conv => lhs; whnf
          refine Eq.trans (b := some (Res.ret (AV.d (D.int IntKind.i64 (1 : Int))), [])) (by kernel_rfl) ?_
          exact ret_i (checkT_bad (by omega) (nodeOk_f (by omega))).symm
        · rw [dec_f h4]
          conv => lhs; whnf
          refine iteK_bne (fun h5 => ?_) (fun h5 => ?_)
          · rw [bne_t h5]
            conv => lhs; whnf
            refine iteK_not ?_
            conv => lhs; whnf
            refine iteK_beq (fun h6 => ?_) (fun h6 => ?_)
            · obtain rfl : s = [] := h6
              conv => lhs; whnf
              refine nextK_ite (loop_at hlp (check74L k l d hlp (by omega) ho4 (fun t ht => ihm t (d + 1) (by have := wtL_mem l t ht; omega) (SmL_mem hsl ht) (OkL_mem ho5 ht) (by omega) (by omega) k (by have := wtL_mem l t ht; omega)) l.length 0 0 k _ rfl (Nat.zero_le _) rfl (by omega) rfl)) ?_
              conv => lhs; whnf
              refine iteK_beq (fun h7 => ?_) (fun h7 => ?_)
              · conv => lhs; whnf
                refine Eq.trans (b := some (Res.ret (AV.d (D.int IntKind.i64 (0 : Int))), [])) (by kernel_rfl) ?_
                exact ret_i ((checkT_go (by omega) ((nodeOk_t (by omega)).trans (textOk_2 (by omega) (by first | rfl | assumption)))).trans (by first | assumption | rfl)).symm
              · conv => lhs; whnf
                refine Eq.trans (b := some (Res.ret (AV.d (D.int IntKind.i64 (checkL l (d + (1 : Int))))), [])) (by kernel_rfl) ?_
                exact ret_i ((checkT_go (by omega) ((nodeOk_t (by omega)).trans (textOk_2 (by omega) (by first | rfl | assumption)))).trans (by first | assumption | rfl)).symm
            · rw [beq_f h6]
              conv => lhs; whnf
              refine Eq.trans (b := some (Res.ret (AV.d (D.int IntKind.i64 (1 : Int))), [])) (by kernel_rfl) ?_
              exact ret_i (checkT_bad (by omega) ((nodeOk_t (by omega)).trans (textOk_1 (by omega) (by assumption)))).symm
          · obtain rfl : n = (0 : Int) := h5
            conv => lhs; whnf
            refine iteK_not ?_
            conv => lhs; whnf
            refine iteK_beq (fun h6 => ?_) (fun h6 => ?_)
            · obtain rfl : s = [] := h6
              conv => lhs; whnf
              refine nextK_ite (loop_at hlp (check74L k l d hlp (by omega) ho4 (fun t ht => ihm t (d + 1) (by have := wtL_mem l t ht; omega) (SmL_mem hsl ht) (OkL_mem ho5 ht) (by omega) (by omega) k (by have := wtL_mem l t ht; omega)) l.length 0 0 k _ rfl (Nat.zero_le _) rfl (by omega) rfl)) ?_
              conv => lhs; whnf
              refine iteK_beq (fun h7 => ?_) (fun h7 => ?_)
              · conv => lhs; whnf
                refine Eq.trans (b := some (Res.ret (AV.d (D.int IntKind.i64 (0 : Int))), [])) (by kernel_rfl) ?_
                exact ret_i ((checkT_go (by omega) ((nodeOk_t (by omega)).trans (textOk_2 (by omega) (by first | rfl | assumption)))).trans (by first | assumption | rfl)).symm
              · conv => lhs; whnf
                refine Eq.trans (b := some (Res.ret (AV.d (D.int IntKind.i64 (checkL l (d + (1 : Int))))), [])) (by kernel_rfl) ?_
                exact ret_i ((checkT_go (by omega) ((nodeOk_t (by omega)).trans (textOk_2 (by omega) (by first | rfl | assumption)))).trans (by first | assumption | rfl)).symm
            · rw [beq_f h6]
              conv => lhs; whnf
              refine Eq.trans (b := some (Res.ret (AV.d (D.int IntKind.i64 (1 : Int))), [])) (by kernel_rfl) ?_
              exact ret_i (checkT_bad (by omega) ((nodeOk_t (by omega)).trans (textOk_1 (by omega) (by assumption)))).symm
    · rw [beq_f h2]
      conv => lhs; whnf
      refine iteK_beq (fun h3 => ?_) (fun h3 => ?_)
      · obtain rfl : x = (2 : Int) := h3
        conv => lhs; whnf
        refine iteK_bne (fun h4 => ?_) (fun h4 => ?_)
        · rw [bne_t h4]
          conv => lhs; whnf
          refine Eq.trans (b := some (Res.ret (AV.d (D.int IntKind.i64 (1 : Int))), [])) (by kernel_rfl) ?_
          exact ret_i (checkT_bad (by omega) (nodeOk_f (by omega))).symm
        · rw [bne_f h4]
          conv => lhs; whnf
          refine iteK_dec (fun h5 => ?_) (fun h5 => ?_)
          · rw [dec_t h5]
            conv => lhs; whnf
            refine Eq.trans (b := some (Res.ret (AV.d (D.int IntKind.i64 (1 : Int))), [])) (by kernel_rfl) ?_
            exact ret_i (checkT_bad (by omega) (nodeOk_f (by omega))).symm
          · rw [dec_f h5]
            conv => lhs; whnf
            refine iteK_bne (fun h6 => ?_) (fun h6 => ?_)
            · rw [bne_t h6]
              conv => lhs; whnf
              refine Eq.trans (b := some (Res.ret (AV.d (D.int IntKind.i64 (1 : Int))), [])) (by kernel_rfl) ?_
              exact ret_i (checkT_bad (by omega) (nodeOk_f (by omega))).symm
            · obtain rfl : n = (0 : Int) := h6
              conv => lhs; whnf
              refine nextK_b (packName_w s (by unfold lim; omega) k (by omega)) (fun h7 => ?_) (fun h7 => ?_)
              · conv => lhs; whnf
                refine iteK_beq (fun h8 => ?_) (fun h8 => ?_)
                · obtain rfl : s = [(121 : UInt8), (101 : UInt8), (115 : UInt8)] := h8
                  conv => lhs; whnf
                  refine Eq.trans (b := some (Res.ret (AV.d (D.int IntKind.i64 (1 : Int))), [])) (by kernel_rfl) ?_
                  exact ret_i (checkT_bad (by omega) ((nodeOk_t (by omega)).trans (textOk_4 (by first | rfl | assumption)))).symm
                · rw [beq_f h8]
                  conv => lhs; whnf
                  refine iteK_beq (fun h9 => ?_) (fun h9 => ?_)
                  · obtain rfl : s = [(110 : UInt8), (111 : UInt8)] := h9
                    conv => lhs; whnf
                    refine Eq.trans (b := some (Res.ret (AV.d (D.int IntKind.i64 (1 : Int))), [])) (by kernel_rfl) ?_
                    exact ret_i (checkT_bad (by omega) ((nodeOk_t (by omega)).trans (textOk_5 (by first | rfl | assumption)))).symm
                  · rw [beq_f h9]
                    conv => lhs; whnf
                    refine nextK_ite (loop_at hlp (check74L k l d hlp (by omega) ho4 (fun t ht => ihm t (d + 1) (by have := wtL_mem l t ht; omega) (SmL_mem hsl ht) (OkL_mem ho5 ht) (by omega) (by omega) k (by have := wtL_mem l t ht; omega)) l.length 0 0 k _ rfl (Nat.zero_le _) rfl (by omega) rfl)) ?_
                    conv => lhs; whnf
                    refine iteK_beq (fun h10 => ?_) (fun h10 => ?_)
                    · conv => lhs; whnf
                      refine Eq.trans (b := some (Res.ret (AV.d (D.int IntKind.i64 (0 : Int))), [])) (by kernel_rfl) ?_
                      exact ret_i ((checkT_go (by omega) ((nodeOk_t (by omega)).trans (textOk_6 (by assumption) (by assumption) (by assumption)))).trans (by first | assumption | rfl)).symm
                    · conv => lhs; whnf
                      refine Eq.trans (b := some (Res.ret (AV.d (D.int IntKind.i64 (checkL l (d + (1 : Int))))), [])) (by kernel_rfl) ?_
                      exact ret_i ((checkT_go (by omega) ((nodeOk_t (by omega)).trans (textOk_6 (by assumption) (by assumption) (by assumption)))).trans (by first | assumption | rfl)).symm
              · conv => lhs; whnf
                refine Eq.trans (b := some (Res.ret (AV.d (D.int IntKind.i64 (1 : Int))), [])) (by kernel_rfl) ?_
                exact ret_i (checkT_bad (by omega) ((nodeOk_t (by omega)).trans (textOk_3 (by assumption)))).symm
      · rw [beq_f h3]
        conv => lhs; whnf
        refine iteK_beq (fun h4 => ?_) (fun h4 => ?_)
        · obtain rfl : x = (3 : Int) := h4
          conv => lhs; whnf
          refine iteK_bne (fun h5 => ?_) (fun h5 => ?_)
          · rw [bne_t h5]
            conv => lhs; whnf
            refine Eq.trans (b := some (Res.ret (AV.d (D.int IntKind.i64 (1 : Int))), [])) (by kernel_rfl) ?_
            exact ret_i (checkT_bad (by omega) (nodeOk_f (by omega))).symm
          · rw [bne_f h5]
            conv => lhs; whnf
            refine iteK_dec (fun h6 => ?_) (fun h6 => ?_)
            · rw [dec_t h6]
              conv => lhs; whnf
              refine Eq.trans (b := some (Res.ret (AV.d (D.int IntKind.i64 (1 : Int))), [])) (by kernel_rfl) ?_
              exact ret_i (checkT_bad (by omega) (nodeOk_f (by omega))).symm
            · rw [dec_f h6]
              conv => lhs; whnf
              refine iteK_bne (fun h7 => ?_) (fun h7 => ?_)
              · rw [bne_t h7]
                conv => lhs; whnf
                refine Eq.trans (b := some (Res.ret (AV.d (D.int IntKind.i64 (1 : Int))), [])) (by kernel_rfl) ?_
                exact ret_i (checkT_bad (by omega) (nodeOk_f (by omega))).symm
              · obtain rfl : n = (0 : Int) := h7
                conv => lhs; whnf
                refine iteK_not ?_
                conv => lhs; whnf
                refine iteK_beq (fun h8 => ?_) (fun h8 => ?_)
                · obtain rfl : s = [] := h8
                  conv => lhs; whnf
                  refine nextK_ite (loop_at hlp (check74L k l d hlp (by omega) ho4 (fun t ht => ihm t (d + 1) (by have := wtL_mem l t ht; omega) (SmL_mem hsl ht) (OkL_mem ho5 ht) (by omega) (by omega) k (by have := wtL_mem l t ht; omega)) l.length 0 0 k _ rfl (Nat.zero_le _) rfl (by omega) rfl)) ?_
                  conv => lhs; whnf
                  refine iteK_beq (fun h9 => ?_) (fun h9 => ?_)
                  · conv => lhs; whnf
                    refine Eq.trans (b := some (Res.ret (AV.d (D.int IntKind.i64 (0 : Int))), [])) (by kernel_rfl) ?_
                    exact ret_i ((checkT_go (by omega) ((nodeOk_t (by omega)).trans (textOk_2 (by omega) (by first | rfl | assumption)))).trans (by first | assumption | rfl)).symm
                  · conv => lhs; whnf
                    refine Eq.trans (b := some (Res.ret (AV.d (D.int IntKind.i64 (checkL l (d + (1 : Int))))), [])) (by kernel_rfl) ?_
                    exact ret_i ((checkT_go (by omega) ((nodeOk_t (by omega)).trans (textOk_2 (by omega) (by first | rfl | assumption)))).trans (by first | assumption | rfl)).symm
                · rw [beq_f h8]
                  conv => lhs; whnf
                  refine Eq.trans (b := some (Res.ret (AV.d (D.int IntKind.i64 (1 : Int))), [])) (by kernel_rfl) ?_
                  exact ret_i (checkT_bad (by omega) ((nodeOk_t (by omega)).trans (textOk_1 (by omega) (by assumption)))).symm
        · rw [beq_f h4]
          conv => lhs; whnf
          refine iteK_beq (fun h5 => ?_) (fun h5 => ?_)
          · obtain rfl : x = (4 : Int) := h5
            conv => lhs; whnf
            refine iteK_bne (fun h6 => ?_) (fun h6 => ?_)
            · rw [bne_t h6]
              conv => lhs; whnf
              refine Eq.trans (b := some (Res.ret (AV.d (D.int IntKind.i64 (1 : Int))), [])) (by kernel_rfl) ?_
              exact ret_i (checkT_bad (by omega) (nodeOk_f (by omega))).symm
            · rw [bne_f h6]
              conv => lhs; whnf
              refine iteK_dec (fun h7 => ?_) (fun h7 => ?_)
              · rw [dec_t h7]
                conv => lhs; whnf
                refine Eq.trans (b := some (Res.ret (AV.d (D.int IntKind.i64 (1 : Int))), [])) (by kernel_rfl) ?_
                exact ret_i (checkT_bad (by omega) (nodeOk_f (by omega))).symm
              · rw [dec_f h7]
                conv => lhs; whnf
                refine iteK_bne (fun h8 => ?_) (fun h8 => ?_)
                · rw [bne_t h8]
                  conv => lhs; whnf
                  refine Eq.trans (b := some (Res.ret (AV.d (D.int IntKind.i64 (1 : Int))), [])) (by kernel_rfl) ?_
                  exact ret_i (checkT_bad (by omega) (nodeOk_f (by omega))).symm
                · obtain rfl : n = (0 : Int) := h8
                  conv => lhs; whnf
                  refine iteK_not ?_
                  conv => lhs; whnf
                  refine iteK_beq (fun h9 => ?_) (fun h9 => ?_)
                  · obtain rfl : s = [] := h9
                    conv => lhs; whnf
                    refine nextK_ite (loop_at hlp (check74L k l d hlp (by omega) ho4 (fun t ht => ihm t (d + 1) (by have := wtL_mem l t ht; omega) (SmL_mem hsl ht) (OkL_mem ho5 ht) (by omega) (by omega) k (by have := wtL_mem l t ht; omega)) l.length 0 0 k _ rfl (Nat.zero_le _) rfl (by omega) rfl)) ?_
                    conv => lhs; whnf
                    refine iteK_beq (fun h10 => ?_) (fun h10 => ?_)
                    · conv => lhs; whnf
                      refine Eq.trans (b := some (Res.ret (AV.d (D.int IntKind.i64 (0 : Int))), [])) (by kernel_rfl) ?_
                      exact ret_i ((checkT_go (by omega) ((nodeOk_t (by omega)).trans (textOk_2 (by omega) (by first | rfl | assumption)))).trans (by first | assumption | rfl)).symm
                    · conv => lhs; whnf
                      refine Eq.trans (b := some (Res.ret (AV.d (D.int IntKind.i64 (checkL l (d + (1 : Int))))), [])) (by kernel_rfl) ?_
                      exact ret_i ((checkT_go (by omega) ((nodeOk_t (by omega)).trans (textOk_2 (by omega) (by first | rfl | assumption)))).trans (by first | assumption | rfl)).symm
                  · rw [beq_f h9]
                    conv => lhs; whnf
                    refine Eq.trans (b := some (Res.ret (AV.d (D.int IntKind.i64 (1 : Int))), [])) (by kernel_rfl) ?_
                    exact ret_i (checkT_bad (by omega) ((nodeOk_t (by omega)).trans (textOk_1 (by omega) (by assumption)))).symm
          · rw [beq_f h5]
            conv => lhs; whnf
            refine iteK_beq (fun h6 => ?_) (fun h6 => ?_)
            · obtain rfl : x = (5 : Int) := h6
              conv => lhs; whnf
              refine iteK_bne (fun h7 => ?_) (fun h7 => ?_)
              · rw [bne_t h7]
                conv => lhs; whnf
                refine Eq.trans (b := some (Res.ret (AV.d (D.int IntKind.i64 (1 : Int))), [])) (by kernel_rfl) ?_
                exact ret_i (checkT_bad (by omega) (nodeOk_f (by omega))).symm
              · rw [bne_f h7]
                conv => lhs; whnf
                refine iteK_dec (fun h8 => ?_) (fun h8 => ?_)
                · rw [dec_t h8]
                  conv => lhs; whnf
                  refine Eq.trans (b := some (Res.ret (AV.d (D.int IntKind.i64 (1 : Int))), [])) (by kernel_rfl) ?_
                  exact ret_i (checkT_bad (by omega) (nodeOk_f (by omega))).symm
                · rw [dec_f h8]
                  conv => lhs; whnf
                  refine iteK_bne (fun h9 => ?_) (fun h9 => ?_)
                  · rw [bne_t h9]
                    conv => lhs; whnf
                    refine Eq.trans (b := some (Res.ret (AV.d (D.int IntKind.i64 (1 : Int))), [])) (by kernel_rfl) ?_
                    exact ret_i (checkT_bad (by omega) (nodeOk_f (by omega))).symm
                  · obtain rfl : n = (0 : Int) := h9
                    conv => lhs; whnf
                    refine iteK_not ?_
                    conv => lhs; whnf
                    refine iteK_beq (fun h10 => ?_) (fun h10 => ?_)
                    · obtain rfl : s = [] := h10
                      conv => lhs; whnf
                      refine nextK_ite (loop_at hlp (check74L k l d hlp (by omega) ho4 (fun t ht => ihm t (d + 1) (by have := wtL_mem l t ht; omega) (SmL_mem hsl ht) (OkL_mem ho5 ht) (by omega) (by omega) k (by have := wtL_mem l t ht; omega)) l.length 0 0 k _ rfl (Nat.zero_le _) rfl (by omega) rfl)) ?_
                      conv => lhs; whnf
                      refine iteK_beq (fun h11 => ?_) (fun h11 => ?_)
                      · conv => lhs; whnf
                        refine Eq.trans (b := some (Res.ret (AV.d (D.int IntKind.i64 (0 : Int))), [])) (by kernel_rfl) ?_
                        exact ret_i ((checkT_go (by omega) ((nodeOk_t (by omega)).trans (textOk_2 (by omega) (by first | rfl | assumption)))).trans (by first | assumption | rfl)).symm
                      · conv => lhs; whnf
                        refine Eq.trans (b := some (Res.ret (AV.d (D.int IntKind.i64 (checkL l (d + (1 : Int))))), [])) (by kernel_rfl) ?_
                        exact ret_i ((checkT_go (by omega) ((nodeOk_t (by omega)).trans (textOk_2 (by omega) (by first | rfl | assumption)))).trans (by first | assumption | rfl)).symm
                    · rw [beq_f h10]
                      conv => lhs; whnf
                      refine Eq.trans (b := some (Res.ret (AV.d (D.int IntKind.i64 (1 : Int))), [])) (by kernel_rfl) ?_
                      exact ret_i (checkT_bad (by omega) ((nodeOk_t (by omega)).trans (textOk_1 (by omega) (by assumption)))).symm
            · rw [beq_f h6]
              conv => lhs; whnf
              refine iteK_beq (fun h7 => ?_) (fun h7 => ?_)
              · obtain rfl : x = (6 : Int) := h7
                conv => lhs; whnf
                refine iteK_bne (fun h8 => ?_) (fun h8 => ?_)
                · rw [bne_t h8]
                  conv => lhs; whnf
                  refine Eq.trans (b := some (Res.ret (AV.d (D.int IntKind.i64 (1 : Int))), [])) (by kernel_rfl) ?_
                  exact ret_i (checkT_bad (by omega) (nodeOk_f (by omega))).symm
                · rw [bne_f h8]
                  conv => lhs; whnf
                  refine iteK_dec (fun h9 => ?_) (fun h9 => ?_)
                  · rw [dec_t h9]
                    conv => lhs; whnf
                    refine Eq.trans (b := some (Res.ret (AV.d (D.int IntKind.i64 (1 : Int))), [])) (by kernel_rfl) ?_
                    exact ret_i (checkT_bad (by omega) (nodeOk_f (by omega))).symm
                  · rw [dec_f h9]
                    conv => lhs; whnf
                    refine iteK_bne (fun h10 => ?_) (fun h10 => ?_)
                    · rw [bne_t h10]
                      conv => lhs; whnf
                      refine Eq.trans (b := some (Res.ret (AV.d (D.int IntKind.i64 (1 : Int))), [])) (by kernel_rfl) ?_
                      exact ret_i (checkT_bad (by omega) (nodeOk_f (by omega))).symm
                    · obtain rfl : n = (0 : Int) := h10
                      conv => lhs; whnf
                      refine iteK_not ?_
                      conv => lhs; whnf
                      refine iteK_beq (fun h11 => ?_) (fun h11 => ?_)
                      · obtain rfl : s = [] := h11
                        conv => lhs; whnf
                        refine nextK_ite (loop_at hlp (check74L k l d hlp (by omega) ho4 (fun t ht => ihm t (d + 1) (by have := wtL_mem l t ht; omega) (SmL_mem hsl ht) (OkL_mem ho5 ht) (by omega) (by omega) k (by have := wtL_mem l t ht; omega)) l.length 0 0 k _ rfl (Nat.zero_le _) rfl (by omega) rfl)) ?_
                        conv => lhs; whnf
                        refine iteK_beq (fun h12 => ?_) (fun h12 => ?_)
                        · conv => lhs; whnf
                          refine Eq.trans (b := some (Res.ret (AV.d (D.int IntKind.i64 (0 : Int))), [])) (by kernel_rfl) ?_
                          exact ret_i ((checkT_go (by omega) ((nodeOk_t (by omega)).trans (textOk_2 (by omega) (by first | rfl | assumption)))).trans (by first | assumption | rfl)).symm
                        · conv => lhs; whnf
                          refine Eq.trans (b := some (Res.ret (AV.d (D.int IntKind.i64 (checkL l (d + (1 : Int))))), [])) (by kernel_rfl) ?_
                          exact ret_i ((checkT_go (by omega) ((nodeOk_t (by omega)).trans (textOk_2 (by omega) (by first | rfl | assumption)))).trans (by first | assumption | rfl)).symm
                      · rw [beq_f h11]
                        conv => lhs; whnf
                        refine Eq.trans (b := some (Res.ret (AV.d (D.int IntKind.i64 (1 : Int))), [])) (by kernel_rfl) ?_
                        exact ret_i (checkT_bad (by omega) ((nodeOk_t (by omega)).trans (textOk_1 (by omega) (by assumption)))).symm
              · rw [beq_f h7]
                conv => lhs; whnf
                refine iteK_dec (fun h8 => ?_) (fun h8 => ?_)
                · rw [dec_t h8]
                  conv => lhs; whnf
                  refine Eq.trans (b := some (Res.ret (AV.d (D.int IntKind.i64 (1 : Int))), [])) (by kernel_rfl) ?_
                  exact ret_i (checkT_bad (by omega) (nodeOk_f (by omega))).symm
                · rw [dec_f h8]
                  conv => lhs; whnf
                  refine iteK_dec (fun h9 => ?_) (fun h9 => ?_)
                  · rw [dec_t h9]
                    conv => lhs; whnf
                    refine Eq.trans (b := some (Res.ret (AV.d (D.int IntKind.i64 (1 : Int))), [])) (by kernel_rfl) ?_
                    exact ret_i (checkT_bad (by omega) (nodeOk_f (by omega))).symm
                  · rw [dec_f h9]
                    conv => lhs; whnf
                    refine iteK_bne (fun h10 => ?_) (fun h10 => ?_)
                    · rw [bne_t h10]
                      conv => lhs; whnf
                      refine Eq.trans (b := some (Res.ret (AV.d (D.int IntKind.i64 (1 : Int))), [])) (by kernel_rfl) ?_
                      exact ret_i (checkT_bad (by omega) (nodeOk_f (by omega))).symm
                    · rw [bne_f h10]
                      conv => lhs; whnf
                      refine iteK_dec (fun h11 => ?_) (fun h11 => ?_)
                      · rw [dec_t h11]
                        conv => lhs; whnf
                        refine Eq.trans (b := some (Res.ret (AV.d (D.int IntKind.i64 (1 : Int))), [])) (by kernel_rfl) ?_
                        exact ret_i (checkT_bad (by omega) (nodeOk_f (by omega))).symm
                      · rw [dec_f h11]
                        conv => lhs; whnf
                        refine iteK_bne (fun h12 => ?_) (fun h12 => ?_)
                        · rw [bne_t h12]
                          conv => lhs; whnf
                          refine iteK_bne_t h2 ?_
                          conv => lhs; whnf
                          refine Eq.trans (b := some (Res.ret (AV.d (D.int IntKind.i64 (1 : Int))), [])) (by kernel_rfl) ?_
                          exact ret_i (checkT_bad (by omega) (nodeOk_f (by omega))).symm
                        · obtain rfl : n = (0 : Int) := h12
                          conv => lhs; whnf
                          refine iteK_bne_t h3 ?_
                          conv => lhs; whnf
                          refine iteK_bne_t h3 ?_
                          conv => lhs; whnf
                          refine iteK_bne_t h3 ?_
                          conv => lhs; whnf
                          refine iteK_bne_t h3 ?_
                          conv => lhs; whnf
                          refine iteK_not ?_
                          conv => lhs; whnf
                          refine iteK_beq (fun h13 => ?_) (fun h13 => ?_)
                          · obtain rfl : s = [] := h13
                            conv => lhs; whnf
                            refine iteK_beq_f h3 ?_
                            conv => lhs; whnf
                            refine iteK_beq_f h3 ?_
                            conv => lhs; whnf
                            refine iteK_beq_f h3 ?_
                            conv => lhs; whnf
                            refine iteK_beq_f h3 ?_
                            conv => lhs; whnf
                            refine iteK_beq_f h3 ?_
                            conv => lhs; whnf
                            refine iteK_beq_f h3 ?_
                            conv => lhs; whnf
                            refine iteK_beq_f h3 ?_
                            conv => lhs; whnf
                            refine iteK_beq_f h3 ?_
                            conv => lhs; whnf
                            refine iteK_beq_f h3 ?_
                            conv => lhs; whnf
                            refine nextK_ite (loop_at hlp (check74L k l d hlp (by omega) ho4 (fun t ht => ihm t (d + 1) (by have := wtL_mem l t ht; omega) (SmL_mem hsl ht) (OkL_mem ho5 ht) (by omega) (by omega) k (by have := wtL_mem l t ht; omega)) l.length 0 0 k _ rfl (Nat.zero_le _) rfl (by omega) rfl)) ?_
                            conv => lhs; whnf
                            refine iteK_beq (fun h14 => ?_) (fun h14 => ?_)
                            · conv => lhs; whnf
                              refine Eq.trans (b := some (Res.ret (AV.d (D.int IntKind.i64 (0 : Int))), [])) (by kernel_rfl) ?_
                              exact ret_i ((checkT_go (by omega) ((nodeOk_t (by omega)).trans (textOk_2 (by omega) (by first | rfl | assumption)))).trans (by first | assumption | rfl)).symm
                            · conv => lhs; whnf
                              refine Eq.trans (b := some (Res.ret (AV.d (D.int IntKind.i64 (checkL l (d + (1 : Int))))), [])) (by kernel_rfl) ?_
                              exact ret_i ((checkT_go (by omega) ((nodeOk_t (by omega)).trans (textOk_2 (by omega) (by first | rfl | assumption)))).trans (by first | assumption | rfl)).symm
                          · rw [beq_f h13]
                            conv => lhs; whnf
                            refine Eq.trans (b := some (Res.ret (AV.d (D.int IntKind.i64 (1 : Int))), [])) (by kernel_rfl) ?_
                            exact ret_i (checkT_bad (by omega) ((nodeOk_t (by omega)).trans (textOk_1 (by omega) (by assumption)))).symm
end Go.Rx12
