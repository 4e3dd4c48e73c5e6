/- A part of the proof of the law: what functions of the program come to, walked by Rx, or plain facts on it. -/
import Derived.Test.YtahnmikdpclbfaaRSame
import Derived.Test.YtahnmikdpclbfaaRChk
open Go Go.Rx Go.Proofs Go.Rx11 Go.RxTree
set_option maxRecDepth 1000000
set_option maxHeartbeats 4000000
set_option linter.unusedVariables false
set_option linter.unusedSimpArgs false
namespace Go.Rx11
theorem same59L (j : Nat) (t : T) (hm : t.kids.length ≤ maxLen)
    (ih : ∀ x : T, x ∈ t.kids → icall Try.prog cfg j 59 [x.av, x.av] [] = some (.ret (.d (.bool true)), [])) {lp : LP} (hlp : lp = lpOf Try.prog cfg (icall Try.prog cfg j) Try.f59.ntmps 59 j (([] : Hp).map (·.1))) :
    ∀ (m i : Nat) (z : Int)  (lf : Nat) (st : St), (t.kids).length - i = m → i ≤ (t.kids).length → z = (i : Int) → m < lf → prune [] [2, 3, 36, 37] st = some ⟨[(2, .ptr (.slot 2) 0), (3, .ptr (.slot 3) 0), (36, .d (.int .i64 (cellsL t.kids).length)), (37, .d (.int .i64 z))], [(.slot 2, .cells [.d (.int .i64 t.kind), .d (.int .i64 t.n), .d (.str t.name), .d (.list (cellsL t.kids))]), (.slot 3, .cells [.d (.int .i64 t.kind), .d (.int .i64 t.n), .d (.str t.name), .d (.list (cellsL t.kids))])]⟩ →
      loopK Try.prog cfg (icall Try.prog cfg j) lp Try.f59.ntmps 59 [] (bodyAt Try.f59 4) lf st (exitP [] (some [4])) = some (.exit 0, ⟨[(4, .undef)], []⟩) := by
  intro m
  induction m with
  | zero =>
    intro i z  lf st hi hle hz  hlf hp
    obtain ⟨lf, rfl⟩ : ∃ n, lf = n + 1 := ⟨lf - 1, by omega⟩
    refine loop_step hp ?_
    have hend : ¬ z < ((cellsL t.kids).length : Int) := by rw [cellsL_len]; omega
    conv => lhs; whnf
    refine iteK_dec_f hend ?_
    conv => lhs; whnf
    refine Eq.trans (b := some (Fx.exit (0 : Nat), St.mk [((4 : Nat), AV.undef)] [])) (by kernel_rfl) ?_
    rfl
  | succ m ihm =>
    intro i z  lf st hi hle hz  hlf hp
    obtain ⟨lf, rfl⟩ : ∃ n, lf = n + 1 := ⟨lf - 1, by omega⟩
    refine loop_step hp ?_
    have hend : z < ((cellsL t.kids).length : Int) := by rw [cellsL_len]; omega
    have hx : t.kids[i]? = some t.kids[i] := List.getElem?_eq_getElem (by omega)
    generalize t.kids[i] = x at hx
    have hc := ih x (List.mem_of_getElem? hx)
    conv => lhs; whnf
    refine iteK_dec_t hend ?_
    conv => lhs; whnf
    refine iteO_t (by kernel_rfl) ?_
    conv => lhs; whnf
    refine nextK_of (aop_ix rfl rfl rfl rfl (ixL_at' hz (cellsL_get _ _ _ hx) rfl)) ?_
    conv => lhs; whnf
    refine nextK_of (aop_ix rfl rfl rfl rfl (ixL_at' hz (cellsL_get _ _ _ hx) rfl)) ?_
    conv => lhs; whnf
    refine nextK_of hc ?_
    conv => lhs; whnf
    refine iteO_t (by kernel_rfl) ?_
    conv => lhs; whnf
    refine Eq.trans (ihm (i + 1) _ lf _ (by omega) (by omega) (wrap_up hz (by omega)) (by omega) rfl) ?_
    rfl
theorem same59 : ∀ (n : Nat) (a : T), a.wt ≤ n → a.Ok → ∀ k, a.wt < k → icall Try.prog cfg k 59 [a.av, a.av] [] = some (.ret (.d (.bool true)), []) := by
  intro n
  induction n with
  | zero => intro a h; rw [T.wt_eq] at h; omega
  | succ n ihn =>
    intro a hn ha k hk
    rw [T.ok_eq] at ha
    obtain ⟨_, _, _, ha4, ha5⟩ := ha
    rw [T.wt_eq] at hn hk
    have hwl := wtL_len a.kids
    obtain ⟨k, rfl⟩ : ∃ j, k = j + 1 := ⟨k - 1, by omega⟩
    show icall Try.prog cfg _ _ [.agg [.d (.int .i64 a.kind), .d (.int .i64 a.n), .d (.str a.name), .d (.list (cellsL a.kids))], .agg [.d (.int .i64 a.kind), .d (.int .i64 a.n), .d (.str a.name), .d (.list (cellsL a.kids))]] [] = _
    have ih := fun x hx => ihn x (by have := wtL_mem a.kids x hx; omega) (OkL_mem ha5 hx) k (by have := wtL_mem a.kids x hx; omega)
    rw [icall_body rfl Try.func59]
    obtain ⟨lp, hlp⟩ : ∃ lp, lp = lpOf Try.prog cfg (icall Try.prog cfg k) Try.f59.ntmps 59 k (([] : Hp).map (·.1)) := ⟨_, rfl⟩
    rw [← hlp]
    conv => lhs; whnf
    refine iteK_bne (fun h1 => ?_) (fun h1 => ?_)
    · rw [bne_t h1]
      (exfalso; omega)
    · rw [bne_f h1]
      conv => lhs; whnf
      refine iteK_bne (fun h2 => ?_) (fun h2 => ?_)
      · rw [bne_t h2]
        (exfalso; omega)
      · rw [bne_f h2]
        conv => lhs; whnf
        refine iteK_not ?_
        conv => lhs; whnf
        refine iteK_beq (fun h3 => ?_) (fun h3 => ?_)
        · rw [beq_t h3]
          conv => lhs; whnf
          refine iteK_bne (fun h4 => ?_) (fun h4 => ?_)
          · rw [bne_t h4]
            (exfalso; omega)
          · rw [bne_f h4]
            conv => lhs; whnf
            refine nextK_of (loop_at hlp (same59L k a ha4 ih hlp a.kids.length 0 0 k _ rfl (Nat.zero_le _) rfl (by omega) rfl)) ?_
            conv => lhs; whnf
            refine Eq.trans (b := some (Res.ret (AV.d (D.bool true)), [])) (by kernel_rfl) ?_
            rfl
        · rw [beq_f h3]
          conv => lhs; whnf
          refine Eq.trans (b := some (Res.ret (AV.d (D.bool false)), [])) (by kernel_rfl) ?_
          exact absurd rfl (by assumption)
theorem eq58L (j : Nat) (l : List T) (hm : l.length ≤ maxLen)
    (ih : ∀ x : T, x ∈ l → icall Try.prog cfg j 59 [.agg [.d (.int .i64 x.kind), .d (.int .i64 x.n), .d (.str x.name), .d (.list (cellsL x.kids))], .agg [.d (.int .i64 x.kind), .d (.int .i64 x.n), .d (.str x.name), .d (.list (cellsL x.kids))]] [] = some (.ret (.d (.bool true)), [])) {lp : LP} (hlp : lp = lpOf Try.prog cfg (icall Try.prog cfg j) Try.f58.ntmps 58 j (([] : Hp).map (·.1))) :
    ∀ (m i : Nat) (z : Int)  (lf : Nat) (st : St), (l).length - i = m → i ≤ (l).length → z = (i : Int) → m < lf → prune [] [1, 2, 15, 16, 17] st = some ⟨[(1, .d (.list (cellsL l))), (2, .fn 59 []), (15, .d (.list (cellsL l))), (16, .d (.int .i64 (cellsL l).length)), (17, .d (.int .i64 z))], []⟩ →
      loopK Try.prog cfg (icall Try.prog cfg j) lp Try.f58.ntmps 58 [] (bodyAt Try.f58 4) lf st (exitP [] (some [6])) = some (.exit 0, ⟨[(6, .undef)], []⟩) := by
  intro m
  induction m with
  | zero =>
    intro i z  lf st hi hle hz  hlf hp
    obtain ⟨lf, rfl⟩ : ∃ n, lf = n + 1 := ⟨lf - 1, by omega⟩
    refine loop_step hp ?_
    have hend : ¬ z < ((cellsL l).length : Int) := by rw [cellsL_len]; omega
    conv => lhs; whnf
    refine iteK_dec_f hend ?_
    conv => lhs; whnf
    refine Eq.trans (b := some (Fx.exit (0 : Nat), St.mk [((6 : Nat), AV.undef)] [])) (by kernel_rfl) ?_
    rfl
  | succ m ihm =>
    intro i z  lf st hi hle hz  hlf hp
    obtain ⟨lf, rfl⟩ : ∃ n, lf = n + 1 := ⟨lf - 1, by omega⟩
    refine loop_step hp ?_
    have hend : z < ((cellsL l).length : Int) := by rw [cellsL_len]; omega
    have hx : l[i]? = some l[i] := List.getElem?_eq_getElem (by omega)
    generalize l[i] = x at hx
    have hc := ih x (List.mem_of_getElem? hx)
    conv => lhs; whnf
    refine iteK_dec_t hend ?_
    conv => lhs; whnf
    refine nextK_of (aop_ix rfl rfl rfl rfl (ixL_at' hz (cellsL_get _ _ _ hx) rfl)) ?_
    conv => lhs; whnf
    refine nextK_of (aop_ix rfl rfl rfl rfl (ixL_at' hz (cellsL_get _ _ _ hx) rfl)) ?_
    conv => lhs; whnf
    refine nextK_of hc ?_
    conv => lhs; whnf
    refine Eq.trans (ihm (i + 1) _ lf _ (by omega) (by omega) (wrap_up hz (by omega)) (by omega) rfl) ?_
    rfl
theorem eq58 (l : List T) (hm : l.length ≤ maxLen) (ho : OkL l) (k : Nat) (hk : wtL l < k) : icall Try.prog cfg k 58 [.d (.list (cellsL l)), .d (.list (cellsL l)), .fn 59 []] [] = some (.ret (.d (.bool true)), []) := by
  have hwl := wtL_len l
  obtain ⟨k, rfl⟩ : ∃ j, k = j + 1 := ⟨k - 1, by omega⟩
  have ih := fun x hx => same59 x.wt x (Nat.le_refl _) (OkL_mem ho hx) k (by have := wtL_mem l x hx; omega)
  rw [icall_body rfl Try.func58]
  obtain ⟨lp, hlp⟩ : ∃ lp, lp = lpOf Try.prog cfg (icall Try.prog cfg k) Try.f58.ntmps 58 k (([] : Hp).map (·.1)) := ⟨_, rfl⟩
  rw [← hlp]
  conv => lhs; whnf
  refine iteK_bne (fun h1 => ?_) (fun h1 => ?_)
  · rw [bne_t h1]
    (exfalso; omega)
  · rw [bne_f h1]
    conv => lhs; whnf
    refine nextK_of (loop_at hlp (eq58L k l hm ih hlp l.length 0 0 k _ rfl (Nat.zero_le _) rfl (by omega) rfl)) ?_
    conv => lhs; whnf
    refine Eq.trans (b := some (Res.ret (AV.d (D.bool true)), [])) (by kernel_rfl) ?_
    rfl
theorem same57 (l : List T) (hm : l.length ≤ maxLen) (ho : OkL l) (k : Nat) (hk : wtL l + 1 < k) : icall Try.prog cfg k 57 [.d (.list (cellsL l)), .d (.list (cellsL l))] [] = some (.ret (.d (.bool true)), []) := by
  obtain ⟨k, rfl⟩ : ∃ j, k = j + 1 := ⟨k - 1, by omega⟩
  have c := eq58 l hm ho k (by omega)
  rw [icall_body rfl Try.func57]
  obtain ⟨lp, hlp⟩ : ∃ lp, lp = lpOf Try.prog cfg (icall Try.prog cfg k) Try.f57.ntmps 57 k (([] : Hp).map (·.1)) := ⟨_, rfl⟩
  rw [← hlp]
  conv => lhs; whnf
  refine nextK_of c ?_
  conv => lhs; whnf
  refine Eq.trans (b := some (Res.ret (AV.d (D.bool true)), [])) (by kernel_rfl) ?_
  rfl
theorem same63 (f : FlowT) (ho : f.Ok) (k : Nat) (hk : f.wt + 3 < k) : icall Try.prog cfg k 63 [.agg [.d (.int .i64 f.to), .d (.list (cellsL f.iff))], .agg [.d (.int .i64 f.to), .d (.list (cellsL f.iff))], .ptr (.arg 2) 0] [(Nm.arg 2, AObj.cells [AV.fn 57 []])] = some (.ret (.d (.bool true)), [(Nm.arg 2, AObj.cells [AV.fn 57 []])]) := by
  obtain ⟨k, rfl⟩ : ∃ j, k = j + 1 := ⟨k - 1, by omega⟩
  have c := same57 f.iff ho.2.1 ho.2.2 k (by unfold FlowT.wt at hk; omega)
  rw [icall_body rfl Try.func63]
  obtain ⟨lp, hlp⟩ : ∃ lp, lp = lpOf Try.prog cfg (icall Try.prog cfg k) Try.f63.ntmps 63 k ([(Nm.arg 2, AObj.cells [AV.fn 57 []])].map (·.1)) := ⟨_, rfl⟩
  rw [← hlp]
  conv => lhs; whnf
  refine iteK_beq (fun h1 => ?_) (fun h1 => ?_)
  · rw [beq_t h1]
    conv => lhs; whnf
    refine nextK_of c ?_
    conv => lhs; whnf
    refine Eq.trans (b := some (Res.ret (AV.d (D.bool true)), [(Nm.arg (2 : Nat), AObj.cells [AV.fn (57 : Nat) []])])) (by kernel_rfl) ?_
    rfl
  · rw [beq_f h1]
    (exfalso; omega)
theorem eq62L (j : Nat) (l : List FlowT) (hm : l.length ≤ maxLen)
    (ih : ∀ f : FlowT, f ∈ l → icall Try.prog cfg j 63 [.agg [.d (.int .i64 f.to), .d (.list (cellsL f.iff))], .agg [.d (.int .i64 f.to), .d (.list (cellsL f.iff))], .ptr (.arg 2) 0] [(Nm.arg 2, AObj.cells [AV.fn 57 []])] = some (.ret (.d (.bool true)), [(Nm.arg 2, AObj.cells [AV.fn 57 []])])) {lp : LP} (hlp : lp = lpOf Try.prog cfg (icall Try.prog cfg j) Try.f62.ntmps 62 j (([(Nm.cell (Nm.arg 2) 0, AObj.cells [AV.fn 57 []])] : Hp).map (·.1))) :
    ∀ (m i : Nat) (z : Int)  (lf : Nat) (st : St), (l).length - i = m → i ≤ (l).length → z = (i : Int) → m < lf → prune [Nm.cell (Nm.arg 2) 0] [1, 2, 15, 16, 17] st = some ⟨[(1, .d (.list (l.map FlowT.cells))), (2, .fn 63 [.ptr (.cell (.arg 2) 0) 0]), (15, .d (.list (l.map FlowT.cells))), (16, .d (.int .i64 (l.map FlowT.cells).length)), (17, .d (.int .i64 z))], [(Nm.cell (Nm.arg 2) 0, AObj.cells [AV.fn 57 []])]⟩ →
      loopK Try.prog cfg (icall Try.prog cfg j) lp Try.f62.ntmps 62 [Nm.cell (Nm.arg 2) 0] (bodyAt Try.f62 4) lf st (exitP [Nm.cell (Nm.arg 2) 0] (some [6])) = some (.exit 0, ⟨[(6, .undef)], [(Nm.cell (Nm.arg 2) 0, AObj.cells [AV.fn 57 []])]⟩) := by
  intro m
  induction m with
  | zero =>
    intro i z  lf st hi hle hz  hlf hp
    obtain ⟨lf, rfl⟩ : ∃ n, lf = n + 1 := ⟨lf - 1, by omega⟩
    refine loop_step hp ?_
    have hend : ¬ z < ((l.map FlowT.cells).length : Int) := by rw [List.length_map]; omega
    conv => lhs; whnf
    refine iteK_dec_f hend ?_
    conv => lhs; whnf
    refine Eq.trans (b := some (Fx.exit (0 : Nat), St.mk [((6 : Nat), AV.undef)] [(Nm.cell (Nm.arg (2 : Nat)) (0 : Nat), AObj.cells [AV.fn (57 : Nat) []])])) (by kernel_rfl) ?_
    rfl
  | succ m ihm =>
    intro i z  lf st hi hle hz  hlf hp
    obtain ⟨lf, rfl⟩ : ∃ n, lf = n + 1 := ⟨lf - 1, by omega⟩
    refine loop_step hp ?_
    have hend : z < ((l.map FlowT.cells).length : Int) := by rw [List.length_map]; omega
    have hx : l[i]? = some l[i] := List.getElem?_eq_getElem (by omega)
    generalize l[i] = f at hx
    have hc := ih f (List.mem_of_getElem? hx)
    conv => lhs; whnf
    refine iteK_dec_t hend ?_
    conv => lhs; whnf
    refine nextK_of (aop_ix rfl rfl rfl rfl (ixL_at' hz (flow_get hx) rfl)) ?_
    conv => lhs; whnf
    refine nextK_of (aop_ix rfl rfl rfl rfl (ixL_at' hz (flow_get hx) rfl)) ?_
    conv => lhs; whnf
    refine nextK_of hc ?_
    conv => lhs; whnf
    refine Eq.trans (ihm (i + 1) _ lf _ (by omega) (by omega) (wrap_up hz (by omega)) (by omega) rfl) ?_
    rfl
theorem eq62 (l : List FlowT) (hm : l.length ≤ maxLen) (ho : ∀ f ∈ l, f.Ok) (k : Nat) (hk : wtS FlowT.wt l + 4 < k) : icall Try.prog cfg k 62 [.d (.list (l.map FlowT.cells)), .d (.list (l.map FlowT.cells)), .fn 63 [.ptr (.cell (.arg 2) 0) 0]] [(Nm.cell (Nm.arg 2) 0, AObj.cells [AV.fn 57 []])] = some (.ret (.d (.bool true)), [(Nm.cell (Nm.arg 2) 0, AObj.cells [AV.fn 57 []])]) := by
  have hwl := wtS_len (w := FlowT.wt) l
  obtain ⟨k, rfl⟩ : ∃ j, k = j + 1 := ⟨k - 1, by omega⟩
  have ih := fun f hf => same63 f (ho f hf) k (by have := wtS_mem (w := FlowT.wt) l f hf; omega)
  rw [icall_body rfl Try.func62]
  obtain ⟨lp, hlp⟩ : ∃ lp, lp = lpOf Try.prog cfg (icall Try.prog cfg k) Try.f62.ntmps 62 k ([(Nm.cell (Nm.arg 2) 0, AObj.cells [AV.fn 57 []])].map (·.1)) := ⟨_, rfl⟩
  rw [← hlp]
  conv => lhs; whnf
  refine iteK_bne (fun h1 => ?_) (fun h1 => ?_)
  · rw [bne_t h1]
    (exfalso; omega)
  · rw [bne_f h1]
    conv => lhs; whnf
    refine nextK_of (loop_at hlp (eq62L k l hm ih hlp l.length 0 0 k _ rfl (Nat.zero_le _) rfl (by omega) rfl)) ?_
    conv => lhs; whnf
    refine Eq.trans (b := some (Res.ret (AV.d (D.bool true)), [(Nm.cell (Nm.arg (2 : Nat)) (0 : Nat), AObj.cells [AV.fn (57 : Nat) []])])) (by kernel_rfl) ?_
    rfl
theorem same61 (p : PlaceT) (ho : p.Ok) (k : Nat) (hk : p.wt + 6 < k) : icall Try.prog cfg k 61 [.agg [.d (.int .i64 p.kind), .d (.str p.name), .d (.int .i64 p.n), .d (.list (cellsL p.arg)), .d (.list (p.out.map FlowT.cells))], .agg [.d (.int .i64 p.kind), .d (.str p.name), .d (.int .i64 p.n), .d (.list (cellsL p.arg)), .d (.list (p.out.map FlowT.cells))], .ptr (.arg 2) 0] [(Nm.arg 2, AObj.cells [AV.fn 57 []])] = some (.ret (.d (.bool true)), [(Nm.arg 2, AObj.cells [AV.fn 57 []])]) := by
  obtain ⟨k, rfl⟩ : ∃ j, k = j + 1 := ⟨k - 1, by omega⟩
  obtain ⟨o1, o2, o3, o4, o5, o6, o7⟩ := ho
  unfold PlaceT.wt at hk
  have c1 := same57 p.arg o4 o5 k (by omega)
  have c2 := eq62 p.out o6 o7 k (by omega)
  rw [icall_body rfl Try.func61]
  obtain ⟨lp, hlp⟩ : ∃ lp, lp = lpOf Try.prog cfg (icall Try.prog cfg k) Try.f61.ntmps 61 k ([(Nm.arg 2, AObj.cells [AV.fn 57 []])].map (·.1)) := ⟨_, rfl⟩
  rw [← hlp]
  conv => lhs; whnf
  refine iteK_beq (fun h1 => ?_) (fun h1 => ?_)
  · rw [beq_t h1]
    conv => lhs; whnf
    refine iteK_beq (fun h2 => ?_) (fun h2 => ?_)
    · rw [beq_t h2]
      conv => lhs; whnf
      refine iteK_beq (fun h3 => ?_) (fun h3 => ?_)
      · rw [beq_t h3]
        conv => lhs; whnf
        refine nextK_of c1 ?_
        conv => lhs; whnf
        refine nextK_of c2 ?_
        conv => lhs; whnf
        refine Eq.trans (b := some (Res.ret (AV.d (D.bool true)), [(Nm.arg (2 : Nat), AObj.cells [AV.fn (57 : Nat) []])])) (by kernel_rfl) ?_
        rfl
      · rw [beq_f h3]
        (exfalso; omega)
    · rw [beq_f h2]
      conv => lhs; whnf
      refine Eq.trans (b := some (Res.ret (AV.d (D.bool false)), [(Nm.arg (2 : Nat), AObj.cells [AV.fn (57 : Nat) []])])) (by kernel_rfl) ?_
      exact absurd rfl (by assumption)
  · rw [beq_f h1]
    (exfalso; omega)
theorem eq60L (j : Nat) (l : List PlaceT) (hm : l.length ≤ maxLen)
    (ih : ∀ p : PlaceT, p ∈ l → icall Try.prog cfg j 61 [.agg [.d (.int .i64 p.kind), .d (.str p.name), .d (.int .i64 p.n), .d (.list (cellsL p.arg)), .d (.list (p.out.map FlowT.cells))], .agg [.d (.int .i64 p.kind), .d (.str p.name), .d (.int .i64 p.n), .d (.list (cellsL p.arg)), .d (.list (p.out.map FlowT.cells))], .ptr (.arg 2) 0] [(Nm.arg 2, AObj.cells [AV.fn 57 []])] = some (.ret (.d (.bool true)), [(Nm.arg 2, AObj.cells [AV.fn 57 []])])) {lp : LP} (hlp : lp = lpOf Try.prog cfg (icall Try.prog cfg j) Try.f60.ntmps 60 j (([(Nm.cell (Nm.arg 2) 0, AObj.cells [AV.fn 57 []])] : Hp).map (·.1))) :
    ∀ (m i : Nat) (z : Int)  (lf : Nat) (st : St), (l).length - i = m → i ≤ (l).length → z = (i : Int) → m < lf → prune [Nm.cell (Nm.arg 2) 0] [1, 2, 15, 16, 17] st = some ⟨[(1, .d (.list (l.map PlaceT.cells))), (2, .fn 61 [.ptr (.cell (.arg 2) 0) 0]), (15, .d (.list (l.map PlaceT.cells))), (16, .d (.int .i64 (l.map PlaceT.cells).length)), (17, .d (.int .i64 z))], [(Nm.cell (Nm.arg 2) 0, AObj.cells [AV.fn 57 []])]⟩ →
      loopK Try.prog cfg (icall Try.prog cfg j) lp Try.f60.ntmps 60 [Nm.cell (Nm.arg 2) 0] (bodyAt Try.f60 4) lf st (exitP [Nm.cell (Nm.arg 2) 0] (some [6])) = some (.exit 0, ⟨[(6, .undef)], [(Nm.cell (Nm.arg 2) 0, AObj.cells [AV.fn 57 []])]⟩) := by
  intro m
  induction m with
  | zero =>
    intro i z  lf st hi hle hz  hlf hp
    obtain ⟨lf, rfl⟩ : ∃ n, lf = n + 1 := ⟨lf - 1, by omega⟩
    refine loop_step hp ?_
    have hend : ¬ z < ((l.map PlaceT.cells).length : Int) := by rw [List.length_map]; omega
    conv => lhs; whnf
    refine iteK_dec_f hend ?_
    conv => lhs; whnf
    refine Eq.trans (b := some (Fx.exit (0 : Nat), St.mk [((6 : Nat), AV.undef)] [(Nm.cell (Nm.arg (2 : Nat)) (0 : Nat), AObj.cells [AV.fn (57 : Nat) []])])) (by kernel_rfl) ?_
    rfl
  | succ m ihm =>
    intro i z  lf st hi hle hz  hlf hp
    obtain ⟨lf, rfl⟩ : ∃ n, lf = n + 1 := ⟨lf - 1, by omega⟩
    refine loop_step hp ?_
    have hend : z < ((l.map PlaceT.cells).length : Int) := by rw [List.length_map]; omega
    have hx : l[i]? = some l[i] := List.getElem?_eq_getElem (by omega)
    generalize l[i] = p at hx
    have hc := ih p (List.mem_of_getElem? hx)
    conv => lhs; whnf
    refine iteK_dec_t hend ?_
    conv => lhs; whnf
    refine nextK_of (aop_ix rfl rfl rfl rfl (ixL_at' hz (place_get hx) rfl)) ?_
    conv => lhs; whnf
    refine nextK_of (aop_ix rfl rfl rfl rfl (ixL_at' hz (place_get hx) rfl)) ?_
    conv => lhs; whnf
    refine nextK_of hc ?_
    conv => lhs; whnf
    refine Eq.trans (ihm (i + 1) _ lf _ (by omega) (by omega) (wrap_up hz (by omega)) (by omega) rfl) ?_
    rfl
theorem eq60 (l : List PlaceT) (hm : l.length ≤ maxLen) (ho : ∀ p ∈ l, p.Ok) (k : Nat) (hk : wtS PlaceT.wt l + 7 < k) : icall Try.prog cfg k 60 [.d (.list (l.map PlaceT.cells)), .d (.list (l.map PlaceT.cells)), .fn 61 [.ptr (.cell (.arg 2) 0) 0]] [(Nm.cell (Nm.arg 2) 0, AObj.cells [AV.fn 57 []])] = some (.ret (.d (.bool true)), [(Nm.cell (Nm.arg 2) 0, AObj.cells [AV.fn 57 []])]) := by
  have hwl := wtS_len (w := PlaceT.wt) l
  obtain ⟨k, rfl⟩ : ∃ j, k = j + 1 := ⟨k - 1, by omega⟩
  have ih := fun p hp => same61 p (ho p hp) k (by have := wtS_mem (w := PlaceT.wt) l p hp; omega)
  rw [icall_body rfl Try.func60]
  obtain ⟨lp, hlp⟩ : ∃ lp, lp = lpOf Try.prog cfg (icall Try.prog cfg k) Try.f60.ntmps 60 k ([(Nm.cell (Nm.arg 2) 0, AObj.cells [AV.fn 57 []])].map (·.1)) := ⟨_, rfl⟩
  rw [← hlp]
  conv => lhs; whnf
  refine iteK_bne (fun h1 => ?_) (fun h1 => ?_)
  · rw [bne_t h1]
    (exfalso; omega)
  · rw [bne_f h1]
    conv => lhs; whnf
    refine nextK_of (loop_at hlp (eq60L k l hm ih hlp l.length 0 0 k _ rfl (Nat.zero_le _) rfl (by omega) rfl)) ?_
    conv => lhs; whnf
    refine Eq.trans (b := some (Res.ret (AV.d (D.bool true)), [(Nm.cell (Nm.arg (2 : Nat)) (0 : Nat), AObj.cells [AV.fn (57 : Nat) []])])) (by kernel_rfl) ?_
    rfl
theorem same27 (d : DefT) (ho : d.Ok) (k : Nat) (hk : d.wt + 9 < k) : icall Try.prog cfg k 27 [.agg [.d (.str d.id), .d (.list (d.places.map PlaceT.cells))], .agg [.d (.str d.id), .d (.list (d.places.map PlaceT.cells))]] [] = some (.ret (.d (.bool true)), []) := by
  obtain ⟨k, rfl⟩ : ∃ j, k = j + 1 := ⟨k - 1, by omega⟩
  obtain ⟨o1, o2, o3⟩ := ho
  unfold DefT.wt at hk
  have c := eq60 d.places o2 o3 k (by omega)
  rw [icall_body rfl Try.func27]
  obtain ⟨lp, hlp⟩ : ∃ lp, lp = lpOf Try.prog cfg (icall Try.prog cfg k) Try.f27.ntmps 27 k (([] : Hp).map (·.1)) := ⟨_, rfl⟩
  rw [← hlp]
  conv => lhs; whnf
  refine iteK_beq (fun h1 => ?_) (fun h1 => ?_)
  · rw [beq_t h1]
    conv => lhs; whnf
    refine nextK_of c ?_
    conv => lhs; whnf
    refine Eq.trans (b := some (Res.ret (AV.d (D.bool true)), [])) (by kernel_rfl) ?_
    rfl
  · rw [beq_f h1]
    conv => lhs; whnf
    refine Eq.trans (b := some (Res.ret (AV.d (D.bool false)), [])) (by kernel_rfl) ?_
    exact absurd rfl (by assumption)
end Go.Rx11
