/- A part of the proof of the law: what functions of the program come to, walked by Rx, or plain facts on it. -/
import Derived.Test.YtaghcidejnhahaaRxCfg12
import Derived.Test.YtaghcidejnhahaaRFieldsM
import Derived.Test.YtaghcidejnhahaaRFieldsR
open Go Go.Rx Go.Proofs Go.Rx12 Go.RxTree
set_option maxRecDepth 1000000
set_option maxHeartbeats 4000000
set_option linter.unusedVariables false
set_option linter.unusedSimpArgs false
namespace Go.Rx12
theorem flows32L (j : Nat) (p : PlaceT) (n : Int) (hm : p.out.length ≤ maxLen)
    (ih : ∀ f ∈ p.out, ∀ y ∈ f.iff, icall Try.prog cfg j 53 [y.av, .d (.bool true)] [] = some (.ret (.d (.int .i64 (typedS y true))), [])) {lp : LP} (hlp : lp = lpOf Try.prog cfg (icall Try.prog cfg j) Try.f42.ntmps 42 j (([] : Hp).map (·.1))) :
    ∀ (m i : Nat) (z : Int)  (lf : Nat) (st : St), (p.out).length - i = m → i ≤ (p.out).length → z = (i : Int) → m < lf → prune [] [1, 2, 10, 11, 12] st = some ⟨[(1, .d (.int .i64 n)), (2, .ptr (.slot 2) 0), (10, .d (.list (p.out.map FlowT.cells))), (11, .d (.int .i64 (p.out.map FlowT.cells).length)), (12, .d (.int .i64 z))], [(.slot 2, .cells [.d (.int .i64 p.kind), .d (.str p.name), .d (.int .i64 p.n), .d (.list (cellsL p.arg)), .d (.list (p.out.map FlowT.cells))])]⟩ →
      loopK Try.prog cfg (icall Try.prog cfg j) lp Try.f42.ntmps 42 [] (bodyAt Try.f42 2) lf st (exitP [] (some [4])) = iteK (flowsL p.kind n (p.out.drop i) == 0) (some (.exit 0, ⟨[(4, .undef)], []⟩)) (some (.ret, ⟨[(4, .d (.int .i64 (flowsL p.kind n (p.out.drop i))))], []⟩)) := by
  intro m
  induction m with
  | zero =>
    intro i z  lf st hi hle hz  hlf hp
    obtain ⟨lf, rfl⟩ : ∃ n, lf = n + 1 := ⟨lf - 1, by omega⟩
    refine loop_step hp ?_
    have hend : ¬ z < ((p.out.map FlowT.cells).length : Int) := by rw [List.length_map]; omega
    rw [List.drop_eq_nil_of_le (by omega)]
    conv => lhs; whnf
    refine iteK_dec_f hend ?_
    conv => lhs; whnf
    refine Eq.trans (b := some (Fx.exit (0 : Nat), St.mk [((4 : Nat), AV.undef)] [])) (by kernel_rfl) ?_
    rfl
  | succ m ihm =>
    intro i z  lf st hi hle hz  hlf hp
    obtain ⟨lf, rfl⟩ : ∃ n, lf = n + 1 := ⟨lf - 1, by omega⟩
    refine loop_step hp ?_
    have hend : z < ((p.out.map FlowT.cells).length : Int) := by rw [List.length_map]; omega
    have hx : p.out[i]? = some p.out[i] := List.getElem?_eq_getElem (by omega)
    generalize p.out[i] = f at hx
    obtain ⟨y, hy⟩ := iff_first f.iff
    have hc := fun h => ih f (List.mem_of_getElem? hx) y (List.mem_of_getElem? (hy h).1)
    have hlf := cellsL_len f.iff
    have hlo : (p.out.map FlowT.cells).length = p.out.length := List.length_map ..
    have hmx : (maxLen : Int) ≤ 9223372036854775807 := by decide
    have hw : IntKind.i64.wrap (((p.out.map FlowT.cells).length : Int) - 1) = ((p.out.map FlowT.cells).length : Int) - 1 := wrap_i64 (by omega) (by omega)
    conv => lhs; whnf
    refine iteK_dec_t hend ?_
    conv => lhs; whnf
    refine nextK_of (aop_ix rfl rfl rfl rfl (ixL_at' hz (flow_get hx) rfl)) ?_
    conv => lhs; whnf
    refine iteK_dec (fun h1 => ?_) (fun h1 => ?_)
    · rw [dec_t h1]
      conv => lhs; whnf
      refine Eq.trans (b := some (Fx.ret, St.mk [((4 : Nat), AV.d (D.int IntKind.i64 (8 : Int)))] [])) (by kernel_rfl) ?_
      (rw [flowsL_1 hx (by omega)]; rfl)
    · rw [dec_f h1]
      conv => lhs; whnf
      refine iteK_dec (fun h2 => ?_) (fun h2 => ?_)
      · rw [dec_t h2]
        conv => lhs; whnf
        refine Eq.trans (b := some (Fx.ret, St.mk [((4 : Nat), AV.d (D.int IntKind.i64 (8 : Int)))] [])) (by kernel_rfl) ?_
        (rw [flowsL_1 hx (by omega)]; rfl)
      · rw [dec_f h2]
        conv => lhs; whnf
        refine iteK_bne (fun h3 => ?_) (fun h3 => ?_)
        · rw [bne_t h3]
          conv => lhs; whnf
          refine iteK_dec (fun h4 => ?_) (fun h4 => ?_)
          · rw [dec_t h4]
            conv => lhs; whnf
            refine Eq.trans (b := some (Fx.ret, St.mk [((4 : Nat), AV.d (D.int IntKind.i64 (8 : Int)))] [])) (by kernel_rfl) ?_
            (rw [flowsL_2 hx (by omega) (by omega) (by omega)]; rfl)
          · rw [dec_f h4]
            conv => lhs; whnf
            refine iteK_dec (fun h5 => ?_) (fun h5 => ?_)
            · rw [dec_t h5]
              (exfalso; omega)
            · rw [dec_f h5]
              conv => lhs; whnf
              refine iteK_beq_f h3 ?_
              conv => lhs; whnf
              refine iteK_beq_f h3 ?_
              conv => lhs; whnf
              refine iteK_beq_f h3 ?_
              conv => lhs; whnf
              refine iteK_beq_f h3 ?_
              conv => lhs; whnf
              refine iteK_beq_f h3 ?_
              conv => lhs; whnf
              refine iteK_beq (fun h6 => ?_) (fun h6 => ?_)
              · rw [beq_t h6]
                (exfalso; omega)
              · rw [beq_f h6]
                conv => lhs; whnf
                refine Eq.trans (ihm (i + 1) _ lf _ (by omega) (by omega) (wrap_up hz (by omega)) (by omega) rfl) ?_
                rw [flowsL_3 hx (by omega) (by omega) (by omega)]
        · rw [bne_f h3]
          conv => lhs; whnf
          refine iteK_dec (fun h4 => ?_) (fun h4 => ?_)
          · rw [dec_t h4]
            conv => lhs; whnf
            refine Eq.trans (b := some (Fx.ret, St.mk [((4 : Nat), AV.d (D.int IntKind.i64 (8 : Int)))] [])) (by kernel_rfl) ?_
            (rw [flowsL_4 hx (by omega) (by omega) (by omega)]; rfl)
          · rw [dec_f h4]
            conv => lhs; whnf
            refine iteK_beq_t h3 ?_
            conv => lhs; whnf
            refine iteK_beq_t h3 ?_
            conv => lhs; whnf
            refine iteK_beq_t h3 ?_
            conv => lhs; whnf
            refine iteK_beq_t h3 ?_
            conv => lhs; whnf
            refine iteK_beq_t h3 ?_
            conv => lhs; whnf
            refine iteK_beq (fun h5 => ?_) (fun h5 => ?_)
            · rw [beq_t h5]
              conv => lhs; whnf
              refine iteK_not ?_
              conv => lhs; whnf
              refine iteK_beq (fun h6 => ?_) (fun h6 => ?_)
              · rw [beq_t h6]
                conv => lhs; whnf
                refine iteK_beq (fun h7 => ?_) (fun h7 => ?_)
                · rw [beq_t h7]
                  (exfalso; omega)
                · rw [beq_f h7]
                  conv => lhs; whnf
                  refine Eq.trans (ihm (i + 1) _ lf _ (by omega) (by omega) (wrap_up hz (by omega)) (by omega) rfl) ?_
                  rw [flowsL_6 hx (by omega) (by omega) (by omega) (by omega)]
              · rw [beq_f h6]
                conv => lhs; whnf
                refine Eq.trans (b := some (Fx.ret, St.mk [((4 : Nat), AV.d (D.int IntKind.i64 (8 : Int)))] [])) (by kernel_rfl) ?_
                (rw [flowsL_5 hx (by omega) (by omega) (by omega) (by omega)]; rfl)
            · rw [beq_f h5]
              conv => lhs; whnf
              refine iteK_beq (fun h6 => ?_) (fun h6 => ?_)
              · rw [beq_t h6]
                conv => lhs; whnf
                refine nextK_of (aop_ix rfl rfl rfl rfl (ixL_at' (n := 0) rfl (cellsL_get _ _ _ (hy (by omega)).1) rfl)) ?_
                conv => lhs; whnf
                refine nextK_of (hc (by omega)) ?_
                conv => lhs; whnf
                refine iteK_bne (fun h7 => ?_) (fun h7 => ?_)
                · rw [bne_t h7]
                  conv => lhs; whnf
                  refine Eq.trans (b := some (Fx.ret, St.mk [((4 : Nat), AV.d (D.int IntKind.i64 (typedS y true)))] [])) (by kernel_rfl) ?_
                  (rw [flowsL_7 hx (by omega) (by omega) ((hy (by omega)).2 (by omega)) (by assumption), iteK_f (beq_f (by assumption)) rfl])
                · rw [bne_f h7]
                  conv => lhs; whnf
                  refine Eq.trans (ihm (i + 1) _ lf _ (by omega) (by omega) (wrap_up hz (by omega)) (by omega) rfl) ?_
                  rw [flowsL_8 hx (by omega) (by omega) ((hy (by omega)).2 (by omega)) (by assumption)]
              · rw [beq_f h6]
                (exfalso; omega)
theorem flows32 (p : PlaceT) (n : Int) (hs : p.Sm) (ho : p.Ok) (k : Nat) (hk : p.wt ≤ k) : icall Try.prog cfg k 42 [p.av, .d (.int .i64 n)] [] = some (.ret (.d (.int .i64 (flowsL p.kind n p.out))), []) := by
  obtain ⟨g1, g2, g3, g4, g5, g6, g7⟩ := ho
  unfold PlaceT.wt at hk
  have hwo := wtS_len (w := FlowT.wt) p.out
  obtain ⟨k, rfl⟩ : ∃ j, k = j + 1 := ⟨k - 1, by omega⟩
  show icall Try.prog cfg _ _ [.agg [.d (.int .i64 p.kind), .d (.str p.name), .d (.int .i64 p.n), .d (.list (cellsL p.arg)), .d (.list (p.out.map FlowT.cells))], _] [] = _
  rw [icall_body rfl Try.func42]
  obtain ⟨lp, hlp⟩ : ∃ lp, lp = lpOf Try.prog cfg (icall Try.prog cfg k) Try.f42.ntmps 42 k (([] : Hp).map (·.1)) := ⟨_, rfl⟩
  rw [← hlp]
  conv => lhs; whnf
  refine nextK_ite (loop_at hlp (flows32L k p n g6 (fun f hf y hy => typed66 y true (SmL_mem (hs.2.2.1 f hf) hy) (OkL_mem (g7 f hf).2.2 hy) k (by have h1 := wtS_mem (w := FlowT.wt) p.out f hf; have h2 := wtL_mem f.iff y hy; unfold FlowT.wt at h1; unfold FlowT.wt at hk; omega)) hlp p.out.length 0 0 k _ rfl (Nat.zero_le _) rfl (by omega) rfl)) ?_
  conv => lhs; whnf
  refine iteK_beq (fun h1 => ?_) (fun h1 => ?_)
  · conv => lhs; whnf
    refine Eq.trans (b := some (Res.ret (AV.d (D.int IntKind.i64 (0 : Int))), [])) (by kernel_rfl) ?_
    exact ret_i (by first | assumption | (symm; assumption))
  · conv => lhs; whnf
    refine Eq.trans (b := some (Res.ret (AV.d (D.int IntKind.i64 (flowsL p.kind n p.out))), [])) (by kernel_rfl) ?_
    rfl
theorem flows35L (j : Nat) (p : PlaceT) (n : Int) (hm : p.out.length ≤ maxLen)
    (ih : ∀ f ∈ p.out, ∀ y ∈ f.iff, icall Try.prog cfg j 49 [y.av, .d (.bool true)] [] = some (.ret (.d (.int .i64 (typedS y true))), [])) {lp : LP} (hlp : lp = lpOf Try.prog cfg (icall Try.prog cfg j) Try.f36.ntmps 36 j (([] : Hp).map (·.1))) :
    ∀ (m i : Nat) (z : Int)  (lf : Nat) (st : St), (p.out).length - i = m → i ≤ (p.out).length → z = (i : Int) → m < lf → prune [] [1, 2, 5] st = some ⟨[(1, .d (.int .i64 n)), (2, .ptr (.slot 2) 0), (5, .d (.int .i64 z))], [(.slot 2, .cells [.d (.int .i64 p.kind), .d (.str p.name), .d (.int .i64 p.n), .d (.list (cellsL p.arg)), .d (.list (p.out.map FlowT.cells))])]⟩ →
      loopK Try.prog cfg (icall Try.prog cfg j) lp Try.f36.ntmps 36 [] (bodyAt Try.f36 2) lf st (exitP [] (some [4])) = iteK (flowsL p.kind n (p.out.drop i) == 0) (some (.exit 0, ⟨[(4, .undef)], []⟩)) (some (.ret, ⟨[(4, .d (.int .i64 (flowsL p.kind n (p.out.drop i))))], []⟩)) := by
  intro m
  induction m with
  | zero =>
    intro i z  lf st hi hle hz  hlf hp
    obtain ⟨lf, rfl⟩ : ∃ n, lf = n + 1 := ⟨lf - 1, by omega⟩
    refine loop_step hp ?_
    have hend : ¬ z < ((p.out.map FlowT.cells).length : Int) := by rw [List.length_map]; omega
    rw [List.drop_eq_nil_of_le (by omega)]
    conv => lhs; whnf
    refine iteK_dec_f hend ?_
    conv => lhs; whnf
    refine Eq.trans (b := some (Fx.exit (0 : Nat), St.mk [((4 : Nat), AV.undef)] [])) (by kernel_rfl) ?_
    rfl
  | succ m ihm =>
    intro i z  lf st hi hle hz  hlf hp
    obtain ⟨lf, rfl⟩ : ∃ n, lf = n + 1 := ⟨lf - 1, by omega⟩
    refine loop_step hp ?_
    have hend : z < ((p.out.map FlowT.cells).length : Int) := by rw [List.length_map]; omega
    have hx : p.out[i]? = some p.out[i] := List.getElem?_eq_getElem (by omega)
    generalize p.out[i] = f at hx
    obtain ⟨y, hy⟩ := iff_first f.iff
    have hc := fun h => ih f (List.mem_of_getElem? hx) y (List.mem_of_getElem? (hy h).1)
    have hlf := cellsL_len f.iff
    have hlo : (p.out.map FlowT.cells).length = p.out.length := List.length_map ..
    have hmx : (maxLen : Int) ≤ 9223372036854775807 := by decide
    have hw : IntKind.i64.wrap (((p.out.map FlowT.cells).length : Int) - 1) = ((p.out.map FlowT.cells).length : Int) - 1 := wrap_i64 (by omega) (by omega)
    conv => lhs; whnf
    refine iteK_dec_t hend ?_
    conv => lhs; whnf
    refine nextK_of (aop_ix rfl rfl rfl rfl (ixL_at' hz (flow_get hx) rfl)) ?_
    conv => lhs; whnf
    refine iteK_dec (fun h1 => ?_) (fun h1 => ?_)
    · rw [dec_t h1]
      conv => lhs; whnf
      refine Eq.trans (b := some (Fx.ret, St.mk [((4 : Nat), AV.d (D.int IntKind.i64 (8 : Int)))] [])) (by kernel_rfl) ?_
      (rw [flowsL_1 hx (by omega)]; rfl)
    · rw [dec_f h1]
      conv => lhs; whnf
      refine iteK_dec (fun h2 => ?_) (fun h2 => ?_)
      · rw [dec_t h2]
        conv => lhs; whnf
        refine Eq.trans (b := some (Fx.ret, St.mk [((4 : Nat), AV.d (D.int IntKind.i64 (8 : Int)))] [])) (by kernel_rfl) ?_
        (rw [flowsL_1 hx (by omega)]; rfl)
      · rw [dec_f h2]
        conv => lhs; whnf
        refine iteK_bne (fun h3 => ?_) (fun h3 => ?_)
        · rw [bne_t h3]
          conv => lhs; whnf
          refine iteK_dec (fun h4 => ?_) (fun h4 => ?_)
          · rw [dec_t h4]
            conv => lhs; whnf
            refine Eq.trans (b := some (Fx.ret, St.mk [((4 : Nat), AV.d (D.int IntKind.i64 (8 : Int)))] [])) (by kernel_rfl) ?_
            (rw [flowsL_2 hx (by omega) (by omega) (by omega)]; rfl)
          · rw [dec_f h4]
            conv => lhs; whnf
            refine Eq.trans (ihm (i + 1) _ lf _ (by omega) (by omega) (wrap_up hz (by omega)) (by omega) rfl) ?_
            rw [flowsL_3 hx (by omega) (by omega) (by omega)]
        · rw [bne_f h3]
          conv => lhs; whnf
          refine iteK_dec (fun h4 => ?_) (fun h4 => ?_)
          · rw [dec_t h4]
            conv => lhs; whnf
            refine Eq.trans (b := some (Fx.ret, St.mk [((4 : Nat), AV.d (D.int IntKind.i64 (8 : Int)))] [])) (by kernel_rfl) ?_
            (rw [flowsL_4 hx (by omega) (by omega) (by omega)]; rfl)
          · rw [dec_f h4]
            conv => lhs; whnf
            refine iteK_beq (fun h5 => ?_) (fun h5 => ?_)
            · rw [beq_t h5]
              conv => lhs; whnf
              refine iteK_dec (fun h6 => ?_) (fun h6 => ?_)
              · rw [dec_t h6]
                conv => lhs; whnf
                refine Eq.trans (b := some (Fx.ret, St.mk [((4 : Nat), AV.d (D.int IntKind.i64 (8 : Int)))] [])) (by kernel_rfl) ?_
                (rw [flowsL_5 hx (by omega) (by omega) (by omega) (by omega)]; rfl)
              · rw [dec_f h6]
                conv => lhs; whnf
                refine iteK_beq_t h5 ?_
                conv => lhs; whnf
                refine Eq.trans (ihm (i + 1) _ lf _ (by omega) (by omega) (wrap_up hz (by omega)) (by omega) rfl) ?_
                rw [flowsL_6 hx (by omega) (by omega) (by omega) (by omega)]
            · rw [beq_f h5]
              conv => lhs; whnf
              refine iteK_beq_f h5 ?_
              conv => lhs; whnf
              refine nextK_of (aop_ix rfl rfl rfl rfl (ixL_at' (n := 0) rfl (cellsL_get _ _ _ (hy (by omega)).1) rfl)) ?_
              conv => lhs; whnf
              refine nextK_of (hc (by omega)) ?_
              conv => lhs; whnf
              refine iteK_bne (fun h6 => ?_) (fun h6 => ?_)
              · rw [bne_t h6]
                conv => lhs; whnf
                refine Eq.trans (b := some (Fx.ret, St.mk [((4 : Nat), AV.d (D.int IntKind.i64 (typedS y true)))] [])) (by kernel_rfl) ?_
                (rw [flowsL_7 hx (by omega) (by omega) ((hy (by omega)).2 (by omega)) (by assumption), iteK_f (beq_f (by assumption)) rfl])
              · rw [bne_f h6]
                conv => lhs; whnf
                refine Eq.trans (ihm (i + 1) _ lf _ (by omega) (by omega) (wrap_up hz (by omega)) (by omega) rfl) ?_
                rw [flowsL_8 hx (by omega) (by omega) ((hy (by omega)).2 (by omega)) (by assumption)]
theorem flows35 (p : PlaceT) (n : Int) (hs : p.Sm) (ho : p.Ok) (k : Nat) (hk : p.wt ≤ k) : icall Try.prog cfg k 36 [p.av, .d (.int .i64 n)] [] = some (.ret (.d (.int .i64 (flowsL p.kind n p.out))), []) := by
  obtain ⟨g1, g2, g3, g4, g5, g6, g7⟩ := ho
  unfold PlaceT.wt at hk
  have hwo := wtS_len (w := FlowT.wt) p.out
  obtain ⟨k, rfl⟩ : ∃ j, k = j + 1 := ⟨k - 1, by omega⟩
  show icall Try.prog cfg _ _ [.agg [.d (.int .i64 p.kind), .d (.str p.name), .d (.int .i64 p.n), .d (.list (cellsL p.arg)), .d (.list (p.out.map FlowT.cells))], _] [] = _
  rw [icall_body rfl Try.func36]
  obtain ⟨lp, hlp⟩ : ∃ lp, lp = lpOf Try.prog cfg (icall Try.prog cfg k) Try.f36.ntmps 36 k (([] : Hp).map (·.1)) := ⟨_, rfl⟩
  rw [← hlp]
  conv => lhs; whnf
  refine nextK_ite (loop_at hlp (flows35L k p n g6 (fun f hf y hy => typed71 y true (SmL_mem (hs.2.2.1 f hf) hy) (OkL_mem (g7 f hf).2.2 hy) k (by have h1 := wtS_mem (w := FlowT.wt) p.out f hf; have h2 := wtL_mem f.iff y hy; unfold FlowT.wt at h1; unfold FlowT.wt at hk; omega)) hlp p.out.length 0 0 k _ rfl (Nat.zero_le _) rfl (by omega) rfl)) ?_
  conv => lhs; whnf
  refine iteK_beq (fun h1 => ?_) (fun h1 => ?_)
  · conv => lhs; whnf
    refine Eq.trans (b := some (Res.ret (AV.d (D.int IntKind.i64 (0 : Int))), [])) (by kernel_rfl) ?_
    exact ret_i (by first | assumption | (symm; assumption))
  · conv => lhs; whnf
    refine Eq.trans (b := some (Res.ret (AV.d (D.int IntKind.i64 (flowsL p.kind n p.out))), [])) (by kernel_rfl) ?_
    rfl
end Go.Rx12
