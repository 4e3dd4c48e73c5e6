/- A part of the proof of the law: what functions of the program come to, walked by Rx, or plain facts on it. -/
import Derived.Test.YtahnmikdpclbfaaRxCfg11
import Derived.Test.YtahnmikdpclbfaaRxDef
open Go Go.Rx Go.Proofs Go.Rx11 Go.RxTree
set_option maxRecDepth 1000000
set_option maxHeartbeats 4000000
set_option linter.unusedVariables false
set_option linter.unusedSimpArgs false
namespace Go.Rx11
/- A tree, a place, a definition, is the same as itself: the reference's answer. -/
theorem same17L (j : Nat) (t : T) (hm : t.kids.length ≤ maxLen)
    (ih : ∀ x : T, x ∈ t.kids → icall Try.prog cfg j 17 [x.av, x.av] [] = some (.ret (.d (.bool true)), [])) {lp : LP} (hlp : lp = lpOf Try.prog cfg (icall Try.prog cfg j) Try.f17.ntmps 17 j (([] : Hp).map (·.1))) :
    ∀ (m i : Nat) (z : Int)  (lf : Nat) (st : St), (t.kids).length - i = m → i ≤ (t.kids).length → z = (i : Int) → m < lf → prune [] [2, 3, 5] st = some ⟨[(2, .ptr (.slot 2) 0), (3, .ptr (.slot 3) 0), (5, .d (.int .i64 z))], [(.slot 2, .cells [.d (.int .i64 t.kind), .d (.int .i64 t.n), .d (.str t.name), .d (.list (cellsL t.kids))]), (.slot 3, .cells [.d (.int .i64 t.kind), .d (.int .i64 t.n), .d (.str t.name), .d (.list (cellsL t.kids))])]⟩ →
      loopK Try.prog cfg (icall Try.prog cfg j) lp Try.f17.ntmps 17 [] (bodyAt Try.f17 4) lf st (exitP [] (some [4])) = some (.exit 0, ⟨[(4, .undef)], []⟩) := by
  intro m
  induction m with
  | zero =>
    intro i z  lf st hi hle hz  hlf hp
    obtain ⟨lf, rfl⟩ : ∃ n, lf = n + 1 := ⟨lf - 1, by omega⟩
    refine loop_step hp ?_
    have hend : ¬ z < ((cellsL t.kids).length : Int) := by rw [cellsL_len]; omega
    conv => lhs; whnf
    refine iteK_dec_f hend ?_
    conv => lhs; whnf
    refine Eq.trans (b := some (Fx.exit (0 : Nat), St.mk [((4 : Nat), AV.undef)] [])) (by kernel_rfl) ?_
    rfl
  | succ m ihm =>
    intro i z  lf st hi hle hz  hlf hp
    obtain ⟨lf, rfl⟩ : ∃ n, lf = n + 1 := ⟨lf - 1, by omega⟩
    refine loop_step hp ?_
    have hend : z < ((cellsL t.kids).length : Int) := by rw [cellsL_len]; omega
    have hx : t.kids[i]? = some t.kids[i] := List.getElem?_eq_getElem (by omega)
    generalize t.kids[i] = x at hx
    have hc := ih x (List.mem_of_getElem? hx)
    conv => lhs; whnf
    refine iteK_dec_t hend ?_
    conv => lhs; whnf
    refine iteO_t (by kernel_rfl) ?_
    conv => lhs; whnf
    refine nextK_of (aop_ix rfl rfl rfl rfl (ixL_at' hz (cellsL_get _ _ _ hx) rfl)) ?_
    conv => lhs; whnf
    refine nextK_of (aop_ix rfl rfl rfl rfl (ixL_at' hz (cellsL_get _ _ _ hx) rfl)) ?_
    conv => lhs; whnf
    refine nextK_of hc ?_
    conv => lhs; whnf
    refine iteO_t (by kernel_rfl) ?_
    conv => lhs; whnf
    refine Eq.trans (ihm (i + 1) _ lf _ (by omega) (by omega) (wrap_up hz (by omega)) (by omega) rfl) ?_
    rfl
theorem same17 : ∀ (n : Nat) (a : T), a.wt ≤ n → a.Ok → ∀ k, a.wt < k → icall Try.prog cfg k 17 [a.av, a.av] [] = some (.ret (.d (.bool true)), []) := by
  intro n
  induction n with
  | zero => intro a h; rw [T.wt_eq] at h; omega
  | succ n ihn =>
    intro a hn ha k hk
    rw [T.ok_eq] at ha
    obtain ⟨_, _, _, ha4, ha5⟩ := ha
    rw [T.wt_eq] at hn hk
    have hwl := wtL_len a.kids
    obtain ⟨k, rfl⟩ : ∃ j, k = j + 1 := ⟨k - 1, by omega⟩
    show icall Try.prog cfg _ _ [.agg [.d (.int .i64 a.kind), .d (.int .i64 a.n), .d (.str a.name), .d (.list (cellsL a.kids))], .agg [.d (.int .i64 a.kind), .d (.int .i64 a.n), .d (.str a.name), .d (.list (cellsL a.kids))]] [] = _
    have ih := fun x hx => ihn x (by have := wtL_mem a.kids x hx; omega) (OkL_mem ha5 hx) k (by have := wtL_mem a.kids x hx; omega)
    rw [icall_body rfl Try.func17]
    obtain ⟨lp, hlp⟩ : ∃ lp, lp = lpOf Try.prog cfg (icall Try.prog cfg k) Try.f17.ntmps 17 k (([] : Hp).map (·.1)) := ⟨_, rfl⟩
    rw [← hlp]
    conv => lhs; whnf
    refine iteK_bne (fun h1 => ?_) (fun h1 => ?_)
    · rw [bne_t h1]
      (exfalso; omega)
    · rw [bne_f h1]
      conv => lhs; whnf
      refine iteK_bne (fun h2 => ?_) (fun h2 => ?_)
      · rw [bne_t h2]
        (exfalso; omega)
      · rw [bne_f h2]
        conv => lhs; whnf
        refine iteK_not ?_
        conv => lhs; whnf
        refine iteK_beq (fun h3 => ?_) (fun h3 => ?_)
        · rw [beq_t h3]
          conv => lhs; whnf
          refine iteK_bne (fun h4 => ?_) (fun h4 => ?_)
          · rw [bne_t h4]
            (exfalso; omega)
          · rw [bne_f h4]
            conv => lhs; whnf
            refine nextK_of (loop_at hlp (same17L k a ha4 ih hlp a.kids.length 0 0 k _ rfl (Nat.zero_le _) rfl (by omega) rfl)) ?_
            conv => lhs; whnf
            refine Eq.trans (b := some (Res.ret (AV.d (D.bool true)), [])) (by kernel_rfl) ?_
            rfl
        · rw [beq_f h3]
          conv => lhs; whnf
          refine Eq.trans (b := some (Res.ret (AV.d (D.bool false)), [])) (by kernel_rfl) ?_
          exact absurd rfl (by assumption)
theorem trees84L (j : Nat) (l : List T) (hm : l.length ≤ maxLen)
    (ih : ∀ x : T, x ∈ l → icall Try.prog cfg j 17 [x.av, x.av] [] = some (.ret (.d (.bool true)), [])) {lp : LP} (hlp : lp = lpOf Try.prog cfg (icall Try.prog cfg j) Try.f84.ntmps 84 j (([] : Hp).map (·.1))) :
    ∀ (m i : Nat) (z : Int)  (lf : Nat) (st : St), (l).length - i = m → i ≤ (l).length → z = (i : Int) → m < lf → prune [] [0, 1, 5] st = some ⟨[(0, .d (.list (cellsL l))), (1, .d (.list (cellsL l))), (5, .d (.int .i64 z))], []⟩ →
      loopK Try.prog cfg (icall Try.prog cfg j) lp Try.f84.ntmps 84 [] (bodyAt Try.f84 4) lf st (exitP [] (some [4])) = some (.exit 0, ⟨[(4, .undef)], []⟩) := by
  intro m
  induction m with
  | zero =>
    intro i z  lf st hi hle hz  hlf hp
    obtain ⟨lf, rfl⟩ : ∃ n, lf = n + 1 := ⟨lf - 1, by omega⟩
    refine loop_step hp ?_
    have hend : ¬ z < ((cellsL l).length : Int) := by rw [cellsL_len]; omega
    conv => lhs; whnf
    refine iteK_dec_f hend ?_
    conv => lhs; whnf
    refine Eq.trans (b := some (Fx.exit (0 : Nat), St.mk [((4 : Nat), AV.undef)] [])) (by kernel_rfl) ?_
    rfl
  | succ m ihm =>
    intro i z  lf st hi hle hz  hlf hp
    obtain ⟨lf, rfl⟩ : ∃ n, lf = n + 1 := ⟨lf - 1, by omega⟩
    refine loop_step hp ?_
    have hend : z < ((cellsL l).length : Int) := by rw [cellsL_len]; omega
    have hx : l[i]? = some l[i] := List.getElem?_eq_getElem (by omega)
    generalize l[i] = x at hx
    have hc := ih x (List.mem_of_getElem? hx)
    conv => lhs; whnf
    refine iteK_dec_t hend ?_
    conv => lhs; whnf
    refine iteO_t (by kernel_rfl) ?_
    conv => lhs; whnf
    refine nextK_of (aop_ix rfl rfl rfl rfl (ixL_at' hz (cellsL_get _ _ _ hx) rfl)) ?_
    conv => lhs; whnf
    refine nextK_of (aop_ix rfl rfl rfl rfl (ixL_at' hz (cellsL_get _ _ _ hx) rfl)) ?_
    conv => lhs; whnf
    refine nextK_of hc ?_
    conv => lhs; whnf
    refine iteO_t (by kernel_rfl) ?_
    conv => lhs; whnf
    refine Eq.trans (ihm (i + 1) _ lf _ (by omega) (by omega) (wrap_up hz (by omega)) (by omega) rfl) ?_
    rfl
theorem trees84 (l : List T) (hm : l.length ≤ maxLen) (ho : OkL l) (k : Nat) (hk : wtL l < k) : icall Try.prog cfg k 84 [.d (.list (cellsL l)), .d (.list (cellsL l))] [] = some (.ret (.d (.bool true)), []) := by
  have hwl := wtL_len l
  obtain ⟨k, rfl⟩ : ∃ j, k = j + 1 := ⟨k - 1, by omega⟩
  have ih := fun x hx => same17 x.wt x (Nat.le_refl _) (OkL_mem ho hx) k (by have := wtL_mem l x hx; omega)
  rw [icall_body rfl Try.func84]
  obtain ⟨lp, hlp⟩ : ∃ lp, lp = lpOf Try.prog cfg (icall Try.prog cfg k) Try.f84.ntmps 84 k (([] : Hp).map (·.1)) := ⟨_, rfl⟩
  rw [← hlp]
  conv => lhs; whnf
  refine iteK_bne (fun h1 => ?_) (fun h1 => ?_)
  · rw [bne_t h1]
    (exfalso; omega)
  · rw [bne_f h1]
    conv => lhs; whnf
    refine nextK_of (loop_at hlp (trees84L k l hm ih hlp l.length 0 0 k _ rfl (Nat.zero_le _) rfl (by omega) rfl)) ?_
    conv => lhs; whnf
    refine Eq.trans (b := some (Res.ret (AV.d (D.bool true)), [])) (by kernel_rfl) ?_
    rfl
theorem same56L (j : Nat) (p : PlaceT) (hm : p.out.length ≤ maxLen)
    (ih : ∀ f ∈ p.out, icall Try.prog cfg j 84 [.d (.list (cellsL f.iff)), .d (.list (cellsL f.iff))] [] = some (.ret (.d (.bool true)), [])) {lp : LP} (hlp : lp = lpOf Try.prog cfg (icall Try.prog cfg j) Try.f56.ntmps 56 j (([] : Hp).map (·.1))) :
    ∀ (m i : Nat) (z : Int)  (lf : Nat) (st : St), (p.out).length - i = m → i ≤ (p.out).length → z = (i : Int) → m < lf → prune [] [2, 3, 5] st = some ⟨[(2, .ptr (.slot 2) 0), (3, .ptr (.slot 3) 0), (5, .d (.int .i64 z))], [(.slot 2, .cells [.d (.int .i64 p.kind), .d (.str p.name), .d (.int .i64 p.n), .d (.list (cellsL p.arg)), .d (.list (p.out.map FlowT.cells))]), (.slot 3, .cells [.d (.int .i64 p.kind), .d (.str p.name), .d (.int .i64 p.n), .d (.list (cellsL p.arg)), .d (.list (p.out.map FlowT.cells))])]⟩ →
      loopK Try.prog cfg (icall Try.prog cfg j) lp Try.f56.ntmps 56 [] (bodyAt Try.f56 4) lf st (exitP [] (some [4])) = some (.exit 0, ⟨[(4, .undef)], []⟩) := by
  intro m
  induction m with
  | zero =>
    intro i z  lf st hi hle hz  hlf hp
    obtain ⟨lf, rfl⟩ : ∃ n, lf = n + 1 := ⟨lf - 1, by omega⟩
    refine loop_step hp ?_
    have hend : ¬ z < ((p.out.map FlowT.cells).length : Int) := by rw [List.length_map]; omega
    conv => lhs; whnf
    refine iteK_dec_f hend ?_
    conv => lhs; whnf
    refine Eq.trans (b := some (Fx.exit (0 : Nat), St.mk [((4 : Nat), AV.undef)] [])) (by kernel_rfl) ?_
    rfl
  | succ m ihm =>
    intro i z  lf st hi hle hz  hlf hp
    obtain ⟨lf, rfl⟩ : ∃ n, lf = n + 1 := ⟨lf - 1, by omega⟩
    refine loop_step hp ?_
    have hend : z < ((p.out.map FlowT.cells).length : Int) := by rw [List.length_map]; omega
    have hx : p.out[i]? = some p.out[i] := List.getElem?_eq_getElem (by omega)
    generalize p.out[i] = f at hx
    have hc := ih f (List.mem_of_getElem? hx)
    conv => lhs; whnf
    refine iteK_dec_t hend ?_
    conv => lhs; whnf
    refine iteO_t (by kernel_rfl) ?_
    conv => lhs; whnf
    refine nextK_of (aop_ix rfl rfl rfl rfl (ixL_at' hz (flow_get hx) rfl)) ?_
    conv => lhs; whnf
    refine nextK_of (aop_ix rfl rfl rfl rfl (ixL_at' hz (flow_get hx) rfl)) ?_
    conv => lhs; whnf
    refine iteK_bne (fun h1 => ?_) (fun h1 => ?_)
    · rw [bne_t h1]
      (exfalso; omega)
    · rw [bne_f h1]
      conv => lhs; whnf
      refine nextK_of (aop_ix rfl rfl rfl rfl (ixL_at' hz (flow_get hx) rfl)) ?_
      conv => lhs; whnf
      refine nextK_of (aop_ix rfl rfl rfl rfl (ixL_at' hz (flow_get hx) rfl)) ?_
      conv => lhs; whnf
      refine nextK_of hc ?_
      conv => lhs; whnf
      refine iteO_t (by kernel_rfl) ?_
      conv => lhs; whnf
      refine Eq.trans (ihm (i + 1) _ lf _ (by omega) (by omega) (wrap_up hz (by omega)) (by omega) rfl) ?_
      rfl
theorem same56 (p : PlaceT) (ho : p.Ok) (k : Nat) (hk : p.wt < k) : icall Try.prog cfg k 56 [p.av, p.av] [] = some (.ret (.d (.bool true)), []) := by
  obtain ⟨g1, g2, g3, g4, g5, g6, g7⟩ := ho
  unfold PlaceT.wt at hk
  have hwo := wtS_len (w := FlowT.wt) p.out
  have hwl := wtL_len p.arg
  obtain ⟨k, rfl⟩ : ∃ j, k = j + 1 := ⟨k - 1, by omega⟩
  have ca := trees84 p.arg g4 g5 k (by omega)
  have ih := fun f hf => trees84 f.iff (g7 f hf).2.1 (g7 f hf).2.2 k (by have h1 := wtS_mem (w := FlowT.wt) p.out f hf; unfold FlowT.wt at h1; unfold FlowT.wt at hk; omega)
  show icall Try.prog cfg _ _ [.agg [.d (.int .i64 p.kind), .d (.str p.name), .d (.int .i64 p.n), .d (.list (cellsL p.arg)), .d (.list (p.out.map FlowT.cells))], .agg [.d (.int .i64 p.kind), .d (.str p.name), .d (.int .i64 p.n), .d (.list (cellsL p.arg)), .d (.list (p.out.map FlowT.cells))]] [] = _
  rw [icall_body rfl Try.func56]
  obtain ⟨lp, hlp⟩ : ∃ lp, lp = lpOf Try.prog cfg (icall Try.prog cfg k) Try.f56.ntmps 56 k (([] : Hp).map (·.1)) := ⟨_, rfl⟩
  rw [← hlp]
  conv => lhs; whnf
  refine iteK_bne (fun h1 => ?_) (fun h1 => ?_)
  · rw [bne_t h1]
    (exfalso; omega)
  · rw [bne_f h1]
    conv => lhs; whnf
    refine iteK_not ?_
    conv => lhs; whnf
    refine iteK_beq (fun h2 => ?_) (fun h2 => ?_)
    · rw [beq_t h2]
      conv => lhs; whnf
      refine iteK_bne (fun h3 => ?_) (fun h3 => ?_)
      · rw [bne_t h3]
        (exfalso; omega)
      · rw [bne_f h3]
        conv => lhs; whnf
        refine nextK_of ca ?_
        conv => lhs; whnf
        refine iteK_bne (fun h4 => ?_) (fun h4 => ?_)
        · rw [bne_t h4]
          (exfalso; omega)
        · rw [bne_f h4]
          conv => lhs; whnf
          refine nextK_of (loop_at hlp (same56L k p g6 ih hlp p.out.length 0 0 k _ rfl (Nat.zero_le _) rfl (by omega) rfl)) ?_
          conv => lhs; whnf
          refine Eq.trans (b := some (Res.ret (AV.d (D.bool true)), [])) (by kernel_rfl) ?_
          rfl
    · rw [beq_f h2]
      conv => lhs; whnf
      refine Eq.trans (b := some (Res.ret (AV.d (D.bool false)), [])) (by kernel_rfl) ?_
      exact absurd rfl (by assumption)
theorem same26L (j : Nat) (d : DefT) (hm : d.places.length ≤ maxLen)
    (ih : ∀ p ∈ d.places, icall Try.prog cfg j 56 [p.av, p.av] [] = some (.ret (.d (.bool true)), [])) {lp : LP} (hlp : lp = lpOf Try.prog cfg (icall Try.prog cfg j) Try.f26.ntmps 26 j (([] : Hp).map (·.1))) :
    ∀ (m i : Nat) (z : Int)  (lf : Nat) (st : St), (d.places).length - i = m → i ≤ (d.places).length → z = (i : Int) → m < lf → prune [] [2, 3, 5] st = some ⟨[(2, .ptr (.slot 2) 0), (3, .ptr (.slot 3) 0), (5, .d (.int .i64 z))], [(.slot 2, .cells [.d (.str d.id), .d (.list (d.places.map PlaceT.cells))]), (.slot 3, .cells [.d (.str d.id), .d (.list (d.places.map PlaceT.cells))])]⟩ →
      loopK Try.prog cfg (icall Try.prog cfg j) lp Try.f26.ntmps 26 [] (bodyAt Try.f26 4) lf st (exitP [] (some [4])) = some (.exit 0, ⟨[(4, .undef)], []⟩) := by
  intro m
  induction m with
  | zero =>
    intro i z  lf st hi hle hz  hlf hp
    obtain ⟨lf, rfl⟩ : ∃ n, lf = n + 1 := ⟨lf - 1, by omega⟩
    refine loop_step hp ?_
    have hend : ¬ z < ((d.places.map PlaceT.cells).length : Int) := by rw [List.length_map]; omega
    conv => lhs; whnf
    refine iteK_dec_f hend ?_
    conv => lhs; whnf
    refine Eq.trans (b := some (Fx.exit (0 : Nat), St.mk [((4 : Nat), AV.undef)] [])) (by kernel_rfl) ?_
    rfl
  | succ m ihm =>
    intro i z  lf st hi hle hz  hlf hp
    obtain ⟨lf, rfl⟩ : ∃ n, lf = n + 1 := ⟨lf - 1, by omega⟩
    refine loop_step hp ?_
    have hend : z < ((d.places.map PlaceT.cells).length : Int) := by rw [List.length_map]; omega
    have hx : d.places[i]? = some d.places[i] := List.getElem?_eq_getElem (by omega)
    generalize d.places[i] = p at hx
    have hc := ih p (List.mem_of_getElem? hx)
    conv => lhs; whnf
    refine iteK_dec_t hend ?_
    conv => lhs; whnf
    refine iteO_t (by kernel_rfl) ?_
    conv => lhs; whnf
    refine nextK_of (aop_ix rfl rfl rfl rfl (ixL_at' hz (place_get hx) rfl)) ?_
    conv => lhs; whnf
    refine nextK_of (aop_ix rfl rfl rfl rfl (ixL_at' hz (place_get hx) rfl)) ?_
    conv => lhs; whnf
    refine nextK_of hc ?_
    conv => lhs; whnf
    refine iteO_t (by kernel_rfl) ?_
    conv => lhs; whnf
    refine Eq.trans (ihm (i + 1) _ lf _ (by omega) (by omega) (wrap_up hz (by omega)) (by omega) rfl) ?_
    rfl
theorem same26 (d : DefT) (ho : d.Ok) (k : Nat) (hk : d.wt < k) : icall Try.prog cfg k 26 [d.av, d.av] [] = some (.ret (.d (.bool true)), []) := by
  obtain ⟨g1, g2, g3⟩ := ho
  unfold DefT.wt at hk
  have hwo := wtS_len (w := PlaceT.wt) d.places
  obtain ⟨k, rfl⟩ : ∃ j, k = j + 1 := ⟨k - 1, by omega⟩
  have ih := fun p hp => same56 p (g3 p hp) k (by have h1 := wtS_mem (w := PlaceT.wt) d.places p hp; omega)
  show icall Try.prog cfg _ _ [.agg [.d (.str d.id), .d (.list (d.places.map PlaceT.cells))], .agg [.d (.str d.id), .d (.list (d.places.map PlaceT.cells))]] [] = _
  rw [icall_body rfl Try.func26]
  obtain ⟨lp, hlp⟩ : ∃ lp, lp = lpOf Try.prog cfg (icall Try.prog cfg k) Try.f26.ntmps 26 k (([] : Hp).map (·.1)) := ⟨_, rfl⟩
  rw [← hlp]
  conv => lhs; whnf
  refine iteK_not ?_
  conv => lhs; whnf
  refine iteK_beq (fun h1 => ?_) (fun h1 => ?_)
  · rw [beq_t h1]
    conv => lhs; whnf
    refine iteK_bne (fun h2 => ?_) (fun h2 => ?_)
    · rw [bne_t h2]
      (exfalso; omega)
    · rw [bne_f h2]
      conv => lhs; whnf
      refine nextK_of (loop_at hlp (same26L k d g2 ih hlp d.places.length 0 0 k _ rfl (Nat.zero_le _) rfl (by omega) rfl)) ?_
      conv => lhs; whnf
      refine Eq.trans (b := some (Res.ret (AV.d (D.bool true)), [])) (by kernel_rfl) ?_
      rfl
  · rw [beq_f h1]
    conv => lhs; whnf
    refine Eq.trans (b := some (Res.ret (AV.d (D.bool false)), [])) (by kernel_rfl) ?_
    exact absurd rfl (by assumption)
end Go.Rx11
