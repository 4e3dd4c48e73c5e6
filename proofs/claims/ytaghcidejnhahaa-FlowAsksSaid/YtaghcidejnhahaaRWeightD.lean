/- A part of the proof of the law: what functions of the program come to, walked by Rx, or plain facts on it. -/
import Derived.Test.YtaghcidejnhahaaRWeight
open Go Go.Rx Go.Proofs Go.Rx12 Go.RxTree
set_option maxRecDepth 1000000
set_option maxHeartbeats 4000000
set_option linter.unusedVariables false
set_option linter.unusedSimpArgs false
namespace Go.Rx12
theorem w28a (j : Nat) (d : DefT) (p : PlaceT) (most i0 : Int) (hm : p.arg.length ≤ maxLen) (hok : OkL p.arg) (hmo : 0 ≤ most ∧ most ≤ 1099511627776)
    (ih : ∀ x : T, x ∈ p.arg → icall Try.prog cfg j 38 [x.av, .d (.int .i64 most)] [] = some (.ret (.d (.int .i64 (weighT x most 30))), [])) {lp : LP} (hlp : lp = lpOf Try.prog cfg (icall Try.prog cfg j) Try.f24.ntmps 24 j (([] : Hp).map (·.1))) :
    ∀ (m i : Nat) (z : Int) (n : Int) (lf : Nat) (st : St), (p.arg).length - i = m → i ≤ (p.arg).length → z = (i : Int) → 0 ≤ n → n ≤ wC → m < lf → prune [] [1, 2, 5, 6, 7, 8] st = some ⟨[(1, .d (.int .i64 most)), (2, .ptr (.slot 2) 0), (5, .d (.int .i64 n)), (6, .d (.int .i64 i0)), (7, .ptr (.slot 7) 0), (8, .d (.int .i64 z))], [dfH 2 d, plH 7 p]⟩ →
      loopK Try.prog cfg (icall Try.prog cfg j) lp Try.f24.ntmps 24 [] (bodyAt Try.f24 8) lf st (exitP [] (some [1, 2, 5, 6, 7])) = some (.exit 2, ⟨[(1, .d (.int .i64 most)), (2, .ptr (.slot 2) 0), (5, .d (.int .i64 (wArgs most (p.arg.drop i) n))), (6, .d (.int .i64 i0)), (7, .ptr (.slot 7) 0)], [dfH 2 d, plH 7 p]⟩) := by
  intro m
  induction m with
  | zero =>
    intro i z n lf st hi hle hz hn1 hn2 hlf hp
    obtain ⟨lf, rfl⟩ : ∃ n, lf = n + 1 := ⟨lf - 1, by omega⟩
    refine loop_step hp ?_
    have hend : ¬ z < ((cellsL p.arg).length : Int) := by rw [cellsL_len]; omega
    rw [List.drop_eq_nil_of_le (by omega)]
    conv => lhs; whnf
    refine iteK_dec_f hend ?_
    conv => lhs; whnf
    refine iteK_dec_f hend ?_
    conv => lhs; whnf
    refine iteK_dec_f hend ?_
    conv => lhs; whnf
    refine iteK_dec_f hend ?_
    conv => lhs; whnf
    refine Eq.trans (b := some (Fx.exit (2 : Nat), St.mk [((1 : Nat), AV.d (D.int IntKind.i64 most)), ((2 : Nat), AV.ptr (Nm.slot (2 : Nat)) (0 : Nat)), ((5 : Nat), AV.d (D.int IntKind.i64 n)), ((6 : Nat), AV.d (D.int IntKind.i64 i0)), ((7 : Nat), AV.ptr (Nm.slot (7 : Nat)) (0 : Nat))] [(Nm.slot (2 : Nat), AObj.cells [AV.d (D.str d.id), AV.d (D.list (List.map PlaceT.cells d.places))]), (Nm.slot (7 : Nat), AObj.cells [AV.d (D.int IntKind.i64 p.kind), AV.d (D.str p.name), AV.d (D.int IntKind.i64 p.n), AV.d (D.list (cellsL p.arg)), AV.d (D.list (List.map FlowT.cells p.out))])])) (by kernel_rfl) ?_
    rfl
  | succ m ihm =>
    intro i z n lf st hi hle hz hn1 hn2 hlf hp
    obtain ⟨lf, rfl⟩ : ∃ n, lf = n + 1 := ⟨lf - 1, by omega⟩
    refine loop_step hp ?_
    have hend : z < ((cellsL p.arg).length : Int) := by rw [cellsL_len]; omega
    have hx : p.arg[i]? = some p.arg[i] := List.getElem?_eq_getElem (by omega)
    generalize p.arg[i] = x at hx
    have hb := weighT_b x most 30 (OkL_mem hok (List.mem_of_getElem? hx)) hmo.1
    have hc := ih x (List.mem_of_getElem? hx)
    have hB : wB = 288230376151711744 := rfl
    have hC : wC = 1152921504606846976 := rfl
    rw [wArgs_drop hx]
    conv => lhs; whnf
    refine iteK_dec_t hend ?_
    conv => lhs; whnf
    refine iteK_dec_t hend ?_
    conv => lhs; whnf
    refine iteK_dec_t hend ?_
    conv => lhs; whnf
    refine iteK_dec_t hend ?_
    conv => lhs; whnf
    refine iteK_dec (fun h1 => ?_) (fun h1 => ?_)
    · rw [dec_t h1]
      conv => lhs; whnf
      refine nextK_of (aop_ix rfl rfl rfl rfl (ixL_at' hz (cellsL_get _ _ _ hx) rfl)) ?_
      conv => lhs; whnf
      refine nextK_of hc ?_
      conv => lhs; whnf
      refine Eq.trans (ihm (i + 1) _ _ lf _ (by omega) (by omega) (wrap_up hz (by omega)) (by rw [wrap_i64 (by omega) (by omega)]; omega) (by rw [wrap_i64 (by omega) (by omega)]; omega) (by omega) rfl) ?_
      (rw [if_pos (by omega), wrap_i64 (by omega) (by omega)])
    · rw [dec_f h1]
      conv => lhs; whnf
      refine Eq.trans (b := some (Fx.exit (2 : Nat), St.mk [((1 : Nat), AV.d (D.int IntKind.i64 most)), ((2 : Nat), AV.ptr (Nm.slot (2 : Nat)) (0 : Nat)), ((5 : Nat), AV.d (D.int IntKind.i64 n)), ((6 : Nat), AV.d (D.int IntKind.i64 i0)), ((7 : Nat), AV.ptr (Nm.slot (7 : Nat)) (0 : Nat))] [(Nm.slot (2 : Nat), AObj.cells [AV.d (D.str d.id), AV.d (D.list (List.map PlaceT.cells d.places))]), (Nm.slot (7 : Nat), AObj.cells [AV.d (D.int IntKind.i64 p.kind), AV.d (D.str p.name), AV.d (D.int IntKind.i64 p.n), AV.d (D.list (cellsL p.arg)), AV.d (D.list (List.map FlowT.cells p.out))])])) (by kernel_rfl) ?_
      (rw [if_neg (by omega)])
theorem w28c (j : Nat) (d : DefT) (p : PlaceT) (f : FlowT) (wi : Nat) (w : Int) (hw : w = (wi : Int)) (hf : p.out[wi]? = some f) (most i0 : Int) (hm : f.iff.length ≤ maxLen) (hok : OkL f.iff) (hmo : 0 ≤ most ∧ most ≤ 1099511627776)
    (ih : ∀ x : T, x ∈ f.iff → icall Try.prog cfg j 38 [x.av, .d (.int .i64 most)] [] = some (.ret (.d (.int .i64 (weighT x most 30))), [])) {lp : LP} (hlp : lp = lpOf Try.prog cfg (icall Try.prog cfg j) Try.f24.ntmps 24 j (([] : Hp).map (·.1))) :
    ∀ (m i : Nat) (z : Int) (n : Int) (lf : Nat) (st : St), (f.iff).length - i = m → i ≤ (f.iff).length → z = (i : Int) → 0 ≤ n → n ≤ wC → m < lf → prune [] [1, 2, 5, 6, 7, 9, 10] st = some ⟨[(1, .d (.int .i64 most)), (2, .ptr (.slot 2) 0), (5, .d (.int .i64 n)), (6, .d (.int .i64 i0)), (7, .ptr (.slot 7) 0), (9, .d (.int .i64 w)), (10, .d (.int .i64 z))], [dfH 2 d, plH 7 p]⟩ →
      loopK Try.prog cfg (icall Try.prog cfg j) lp Try.f24.ntmps 24 [] (bodyAt Try.f24 15) lf st (exitP [] (some [1, 2, 5, 6, 7, 9])) = some (.exit 6, ⟨[(1, .d (.int .i64 most)), (2, .ptr (.slot 2) 0), (5, .d (.int .i64 (wArgs most (f.iff.drop i) n))), (6, .d (.int .i64 i0)), (7, .ptr (.slot 7) 0), (9, .d (.int .i64 w))], [dfH 2 d, plH 7 p]⟩) := by
  intro m
  induction m with
  | zero =>
    intro i z n lf st hi hle hz hn1 hn2 hlf hp
    obtain ⟨lf, rfl⟩ : ∃ n, lf = n + 1 := ⟨lf - 1, by omega⟩
    refine loop_step hp ?_
    have hend : ¬ z < ((cellsL f.iff).length : Int) := by rw [cellsL_len]; omega
    rw [List.drop_eq_nil_of_le (by omega)]
    conv => lhs; whnf
    refine nextK_of (aop_ix rfl rfl rfl rfl (ixL_at' hw (flow_get hf) rfl)) ?_
    conv => lhs; whnf
    refine iteK_dec_f hend ?_
    conv => lhs; whnf
    refine iteK_dec_f hend ?_
    conv => lhs; whnf
    refine iteK_dec_f hend ?_
    conv => lhs; whnf
    refine iteK_dec_f hend ?_
    conv => lhs; whnf
    refine Eq.trans (b := some (Fx.exit (6 : Nat), St.mk [((1 : Nat), AV.d (D.int IntKind.i64 most)), ((2 : Nat), AV.ptr (Nm.slot (2 : Nat)) (0 : Nat)), ((5 : Nat), AV.d (D.int IntKind.i64 n)), ((6 : Nat), AV.d (D.int IntKind.i64 i0)), ((7 : Nat), AV.ptr (Nm.slot (7 : Nat)) (0 : Nat)), ((9 : Nat), AV.d (D.int IntKind.i64 w))] [(Nm.slot (2 : Nat), AObj.cells [AV.d (D.str d.id), AV.d (D.list (List.map PlaceT.cells d.places))]), (Nm.slot (7 : Nat), AObj.cells [AV.d (D.int IntKind.i64 p.kind), AV.d (D.str p.name), AV.d (D.int IntKind.i64 p.n), AV.d (D.list (cellsL p.arg)), AV.d (D.list (List.map FlowT.cells p.out))])])) (by kernel_rfl) ?_
    rfl
  | succ m ihm =>
    intro i z n lf st hi hle hz hn1 hn2 hlf hp
    obtain ⟨lf, rfl⟩ : ∃ n, lf = n + 1 := ⟨lf - 1, by omega⟩
    refine loop_step hp ?_
    have hend : z < ((cellsL f.iff).length : Int) := by rw [cellsL_len]; omega
    have hx : f.iff[i]? = some f.iff[i] := List.getElem?_eq_getElem (by omega)
    generalize f.iff[i] = x at hx
    have hb := weighT_b x most 30 (OkL_mem hok (List.mem_of_getElem? hx)) hmo.1
    have hc := ih x (List.mem_of_getElem? hx)
    have hB : wB = 288230376151711744 := rfl
    have hC : wC = 1152921504606846976 := rfl
    rw [wArgs_drop hx]
    conv => lhs; whnf
    refine nextK_of (aop_ix rfl rfl rfl rfl (ixL_at' hw (flow_get hf) rfl)) ?_
    conv => lhs; whnf
    refine iteK_dec_t hend ?_
    conv => lhs; whnf
    refine iteK_dec_t hend ?_
    conv => lhs; whnf
    refine iteK_dec_t hend ?_
    conv => lhs; whnf
    refine iteK_dec_t hend ?_
    conv => lhs; whnf
    refine iteK_dec (fun h1 => ?_) (fun h1 => ?_)
    · rw [dec_t h1]
      conv => lhs; whnf
      refine nextK_of (aop_ix rfl rfl rfl rfl (ixL_at' hw (flow_get hf) rfl)) ?_
      conv => lhs; whnf
      refine nextK_of (aop_ix rfl rfl rfl rfl (ixL_at' hz (cellsL_get _ _ _ hx) rfl)) ?_
      conv => lhs; whnf
      refine nextK_of hc ?_
      conv => lhs; whnf
      refine Eq.trans (ihm (i + 1) _ _ lf _ (by omega) (by omega) (wrap_up hz (by omega)) (by rw [wrap_i64 (by omega) (by omega)]; omega) (by rw [wrap_i64 (by omega) (by omega)]; omega) (by omega) rfl) ?_
      (rw [if_pos (by omega), wrap_i64 (by omega) (by omega)])
    · rw [dec_f h1]
      conv => lhs; whnf
      refine Eq.trans (b := some (Fx.exit (6 : Nat), St.mk [((1 : Nat), AV.d (D.int IntKind.i64 most)), ((2 : Nat), AV.ptr (Nm.slot (2 : Nat)) (0 : Nat)), ((5 : Nat), AV.d (D.int IntKind.i64 n)), ((6 : Nat), AV.d (D.int IntKind.i64 i0)), ((7 : Nat), AV.ptr (Nm.slot (7 : Nat)) (0 : Nat)), ((9 : Nat), AV.d (D.int IntKind.i64 w))] [(Nm.slot (2 : Nat), AObj.cells [AV.d (D.str d.id), AV.d (D.list (List.map PlaceT.cells d.places))]), (Nm.slot (7 : Nat), AObj.cells [AV.d (D.int IntKind.i64 p.kind), AV.d (D.str p.name), AV.d (D.int IntKind.i64 p.n), AV.d (D.list (cellsL p.arg)), AV.d (D.list (List.map FlowT.cells p.out))])])) (by kernel_rfl) ?_
      (rw [if_neg (by omega)])
theorem w28b (j : Nat) (d : DefT) (p : PlaceT) (most i0 : Int) (hm : p.out.length ≤ maxLen) (hok : ∀ f ∈ p.out, f.Ok) (hmo : 0 ≤ most ∧ most ≤ 1099511627776) (hj : ∀ f ∈ p.out, f.iff.length < j)
    (ih : ∀ f ∈ p.out, ∀ x : T, x ∈ f.iff → icall Try.prog cfg j 38 [x.av, .d (.int .i64 most)] [] = some (.ret (.d (.int .i64 (weighT x most 30))), [])) {lp : LP} (hlp : lp = lpOf Try.prog cfg (icall Try.prog cfg j) Try.f24.ntmps 24 j (([] : Hp).map (·.1))) :
    ∀ (m i : Nat) (z : Int) (n : Int) (lf : Nat) (st : St), (p.out).length - i = m → i ≤ (p.out).length → z = (i : Int) → 0 ≤ n → n ≤ wC → m < lf → prune [] [1, 2, 5, 6, 7, 9] st = some ⟨[(1, .d (.int .i64 most)), (2, .ptr (.slot 2) 0), (5, .d (.int .i64 n)), (6, .d (.int .i64 i0)), (7, .ptr (.slot 7) 0), (9, .d (.int .i64 z))], [dfH 2 d, plH 7 p]⟩ →
      loopK Try.prog cfg (icall Try.prog cfg j) lp Try.f24.ntmps 24 [] (bodyAt Try.f24 12) lf st (exitP [] (some [1, 2, 5, 6])) = some (.exit 4, ⟨[(1, .d (.int .i64 most)), (2, .ptr (.slot 2) 0), (5, .d (.int .i64 (wFlows most (p.out.drop i) n))), (6, .d (.int .i64 i0))], [dfH 2 d]⟩) := by
  intro m
  induction m with
  | zero =>
    intro i z n lf st hi hle hz hn1 hn2 hlf hp
    obtain ⟨lf, rfl⟩ : ∃ n, lf = n + 1 := ⟨lf - 1, by omega⟩
    refine loop_step hp ?_
    have hend : ¬ z < ((p.out.map FlowT.cells).length : Int) := by rw [List.length_map]; omega
    rw [List.drop_eq_nil_of_le (by omega)]
    conv => lhs; whnf
    refine iteK_dec_f hend ?_
    conv => lhs; whnf
    refine iteK_dec_f hend ?_
    conv => lhs; whnf
    refine iteK_dec_f hend ?_
    conv => lhs; whnf
    refine iteK_dec_f hend ?_
    conv => lhs; whnf
    refine Eq.trans (b := some (Fx.exit (4 : Nat), St.mk [((1 : Nat), AV.d (D.int IntKind.i64 most)), ((2 : Nat), AV.ptr (Nm.slot (2 : Nat)) (0 : Nat)), ((5 : Nat), AV.d (D.int IntKind.i64 n)), ((6 : Nat), AV.d (D.int IntKind.i64 i0))] [(Nm.slot (2 : Nat), AObj.cells [AV.d (D.str d.id), AV.d (D.list (List.map PlaceT.cells d.places))])])) (by kernel_rfl) ?_
    rfl
  | succ m ihm =>
    intro i z n lf st hi hle hz hn1 hn2 hlf hp
    obtain ⟨lf, rfl⟩ : ∃ n, lf = n + 1 := ⟨lf - 1, by omega⟩
    refine loop_step hp ?_
    have hend : z < ((p.out.map FlowT.cells).length : Int) := by rw [List.length_map]; omega
    have hx : p.out[i]? = some p.out[i] := List.getElem?_eq_getElem (by omega)
    generalize p.out[i] = f at hx
    have hfm := List.mem_of_getElem? hx
    have hfo := hok f hfm
    have hb := wArgs_b hmo f.iff n hfo.2.2 hn1 hn2
    rw [wFlows_drop hx]
    conv => lhs; whnf
    refine iteK_dec_t hend ?_
    conv => lhs; whnf
    refine iteK_dec_t hend ?_
    conv => lhs; whnf
    refine iteK_dec_t hend ?_
    conv => lhs; whnf
    refine iteK_dec_t hend ?_
    conv => lhs; whnf
    refine iteK_dec (fun h1 => ?_) (fun h1 => ?_)
    · rw [dec_t h1]
      conv => lhs; whnf
      refine nextK_of (loop_at hlp (w28c j d p f i z hz hx most i0 hfo.2.1 hfo.2.2 hmo (ih f hfm) hlp f.iff.length 0 0 n j _ rfl (Nat.zero_le _) rfl hn1 hn2 (hj f hfm) rfl)) ?_
      conv => lhs; whnf
      refine Eq.trans (ihm (i + 1) _ _ lf _ (by omega) (by omega) (wrap_up hz (by omega)) hb.1 hb.2 (by omega) rfl) ?_
      rw [if_pos (by omega)]
    · rw [dec_f h1]
      conv => lhs; whnf
      refine Eq.trans (b := some (Fx.exit (4 : Nat), St.mk [((1 : Nat), AV.d (D.int IntKind.i64 most)), ((2 : Nat), AV.ptr (Nm.slot (2 : Nat)) (0 : Nat)), ((5 : Nat), AV.d (D.int IntKind.i64 n)), ((6 : Nat), AV.d (D.int IntKind.i64 i0))] [(Nm.slot (2 : Nat), AObj.cells [AV.d (D.str d.id), AV.d (D.list (List.map PlaceT.cells d.places))])])) (by kernel_rfl) ?_
      (rw [if_neg (by omega)])
theorem w28p (j : Nat) (d : DefT) (most : Int) (hm : d.places.length ≤ maxLen) (hok : ∀ p ∈ d.places, p.Ok) (hsm : ∀ p ∈ d.places, p.Sm) (hmo : 0 ≤ most ∧ most ≤ 1099511627776) (hj : ∀ p ∈ d.places, p.wt ≤ j)
    (ih : ∀ x : T, x.wt + 1 < j → x.Ok → icall Try.prog cfg j 38 [x.av, .d (.int .i64 most)] [] = some (.ret (.d (.int .i64 (weighT x most 30))), [])) {lp : LP} (hlp : lp = lpOf Try.prog cfg (icall Try.prog cfg j) Try.f24.ntmps 24 j (([] : Hp).map (·.1))) :
    ∀ (m i : Nat) (z : Int) (n : Int) (lf : Nat) (st : St), (d.places).length - i = m → i ≤ (d.places).length → z = (i : Int) → 0 ≤ n → n ≤ wC → m < lf → prune [] [1, 2, 5, 6] st = some ⟨[(1, .d (.int .i64 most)), (2, .ptr (.slot 2) 0), (5, .d (.int .i64 n)), (6, .d (.int .i64 z))], [dfH 2 d]⟩ →
      loopK Try.prog cfg (icall Try.prog cfg j) lp Try.f24.ntmps 24 [] (bodyAt Try.f24 3) lf st (exitP [] (some [5])) = some (.exit 0, ⟨[(5, .d (.int .i64 (wPlaces most (d.places.drop i) n)))], []⟩) := by
  intro m
  induction m with
  | zero =>
    intro i z n lf st hi hle hz hn1 hn2 hlf hp
    obtain ⟨lf, rfl⟩ : ∃ n, lf = n + 1 := ⟨lf - 1, by omega⟩
    refine loop_step hp ?_
    have hend : ¬ z < ((d.places.map PlaceT.cells).length : Int) := by rw [List.length_map]; omega
    rw [List.drop_eq_nil_of_le (by omega)]
    conv => lhs; whnf
    refine iteK_dec_f hend ?_
    conv => lhs; whnf
    refine iteK_dec_f hend ?_
    conv => lhs; whnf
    refine iteK_dec_f hend ?_
    conv => lhs; whnf
    refine iteK_dec_f hend ?_
    conv => lhs; whnf
    refine Eq.trans (b := some (Fx.exit (0 : Nat), St.mk [((5 : Nat), AV.d (D.int IntKind.i64 n))] [])) (by kernel_rfl) ?_
    rfl
  | succ m ihm =>
    intro i z n lf st hi hle hz hn1 hn2 hlf hp
    obtain ⟨lf, rfl⟩ : ∃ n, lf = n + 1 := ⟨lf - 1, by omega⟩
    refine loop_step hp ?_
    have hend : z < ((d.places.map PlaceT.cells).length : Int) := by rw [List.length_map]; omega
    have hx : d.places[i]? = some d.places[i] := List.getElem?_eq_getElem (by omega)
    generalize d.places[i] = p at hx
    have hpm := List.mem_of_getElem? hx
    obtain ⟨o1, o2, o3, o4, o5, o6, o7⟩ := hok p hpm
    obtain ⟨s1, s2, s3, s4⟩ := hsm p hpm
    have hpw := hj p hpm
    unfold PlaceT.wt at hpw
    have hwa := wtL_len p.arg
    have hwo := wtS_len (w := FlowT.wt) p.out
    have hlo : (p.out.map FlowT.cells).length = p.out.length := List.length_map ..
    have q1 : 0 ≤ (p.name.length : Int) / 60 := Int.ediv_nonneg (by omega) (by omega)
    have q2 : (p.name.length : Int) / 60 ≤ 140737488351232 := by omega
    have hC : wC = 1152921504606846976 := rfl
    have e0 : IntKind.i64.wrap (Int.tdiv (p.name.length : Int) 60) = (p.name.length : Int) / 60 := by rw [Int.tdiv_eq_ediv_of_nonneg (by omega)]; exact wrap_i64 (by omega) (by omega)
    have e1 : n ≤ most → IntKind.i64.wrap (IntKind.i64.wrap (IntKind.i64.wrap (n + 1) + IntKind.i64.wrap (Int.tdiv (p.name.length : Int) 60)) + ((p.out.map FlowT.cells).length : Int)) = n + 1 + (p.name.length : Int) / 60 + (p.out.length : Int) := fun h => by rw [e0, hlo, wrap_i64 (n := n + 1) (by omega) (by omega), wrap_i64 (n := n + 1 + (p.name.length : Int) / 60) (by omega) (by omega), wrap_i64 (by omega) (by omega)]
    have hfw : ∀ f ∈ p.out, ∀ x ∈ f.iff, x.wt + 1 < j := fun f hf x hx => by have h1 := wtS_mem (w := FlowT.wt) p.out f hf; have h2 := wtL_mem f.iff x hx; unfold FlowT.wt at h1; unfold FlowT.wt at hpw; omega
    have hfj : ∀ f ∈ p.out, f.iff.length < j := fun f hf => by have h1 := wtS_mem (w := FlowT.wt) p.out f hf; have h2 := wtL_len f.iff; unfold FlowT.wt at h1; unfold FlowT.wt at hpw; omega
    have ba := fun h : n ≤ most => wArgs_b hmo p.arg (n + 1 + (p.name.length : Int) / 60 + (p.out.length : Int)) o5 (by omega) (by omega)
    have bf := fun h : n ≤ most => wFlows_b hmo p.out _ o7 (ba h).1 (ba h).2
    rw [wPlaces_drop hx]
    conv => lhs; whnf
    refine iteK_dec_t hend ?_
    conv => lhs; whnf
    refine iteK_dec_t hend ?_
    conv => lhs; whnf
    refine iteK_dec_t hend ?_
    conv => lhs; whnf
    refine iteK_dec_t hend ?_
    conv => lhs; whnf
    refine iteK_dec (fun h1 => ?_) (fun h1 => ?_)
    · rw [dec_t h1]
      conv => lhs; whnf
      refine nextK_of (aop_ix rfl rfl rfl rfl (ixL_at' hz (place_get hx) rfl)) ?_
      conv => lhs; whnf
      refine nextK_of (loop_at hlp (w28a j d p most z o4 o5 hmo (fun x hx => ih x (by have := wtL_mem p.arg x hx; omega) (OkL_mem o5 hx)) hlp p.arg.length 0 0 _ j _ rfl (Nat.zero_le _) rfl (by rw [e1 (by omega)]; omega) (by rw [e1 (by omega)]; omega) (by omega) rfl)) ?_
      conv => lhs; whnf
      refine nextK_of (loop_at hlp (w28b j d p most z o6 o7 hmo hfj (fun f hf x hx => ih x (hfw f hf x hx) (OkL_mem (o7 f hf).2.2 hx)) hlp p.out.length 0 0 _ j _ rfl (Nat.zero_le _) rfl (by rw [e1 (by omega)]; exact (ba (by omega)).1) (by rw [e1 (by omega)]; exact (ba (by omega)).2) (by omega) rfl)) ?_
      conv => lhs; whnf
      refine Eq.trans (ihm (i + 1) _ _ lf _ (by omega) (by omega) (wrap_up hz (by omega)) (by rw [e1 (by omega)]; exact (bf (by omega)).1) (by rw [e1 (by omega)]; exact (bf (by omega)).2) (by omega) rfl) ?_
      (rw [if_pos (by omega), e1 (by omega)]; rfl)
    · rw [dec_f h1]
      conv => lhs; whnf
      refine Eq.trans (b := some (Fx.exit (0 : Nat), St.mk [((5 : Nat), AV.d (D.int IntKind.i64 n))] [])) (by kernel_rfl) ?_
      (rw [if_neg (by omega)])
theorem weight28 (d : DefT) (most : Int) (ho : d.Ok) (hs : d.Sm) (h1 : 0 ≤ most) (h2 : most ≤ 1099511627776) (k : Nat) (hk : d.wt + 1 < k) : icall Try.prog cfg k 24 [d.av, .d (.int .i64 most)] [] = some (.ret (.d (.int .i64 (weightD d most))), []) := by
  obtain ⟨o1, o2, o3⟩ := ho
  obtain ⟨s1, s2⟩ := hs
  unfold DefT.wt at hk
  have hwp := wtS_len (w := PlaceT.wt) d.places
  have q1 : 0 ≤ (d.id.length : Int) / 100 := Int.ediv_nonneg (by omega) (by omega)
  have q2 : (d.id.length : Int) / 100 ≤ 140737488351232 := by omega
  have hC : wC = 1152921504606846976 := rfl
  have e0 : IntKind.i64.wrap (Int.tdiv (d.id.length : Int) 100) = (d.id.length : Int) / 100 := by rw [Int.tdiv_eq_ediv_of_nonneg (by omega)]; exact wrap_i64 (by omega) (by omega)
  obtain ⟨k, rfl⟩ : ∃ j, k = j + 1 := ⟨k - 1, by omega⟩
  show icall Try.prog cfg _ _ [.agg [.d (.str d.id), .d (.list (d.places.map PlaceT.cells))], _] [] = _
  rw [icall_body rfl Try.func24]
  obtain ⟨lp, hlp⟩ : ∃ lp, lp = lpOf Try.prog cfg (icall Try.prog cfg k) Try.f24.ntmps 24 k (([] : Hp).map (·.1)) := ⟨_, rfl⟩
  rw [← hlp]
  conv => lhs; whnf
  refine nextK_of (loop_at hlp (w28p k d most o2 o3 s2 ⟨h1, h2⟩ (fun p hp => by have := wtS_mem (w := PlaceT.wt) d.places p hp; omega) (fun x hx ho => weight14 x most ho h1 h2 k hx) hlp d.places.length 0 0 _ k _ rfl (Nat.zero_le _) rfl (by omega) (by omega) (by omega) rfl)) ?_
  conv => lhs; whnf
  refine Eq.trans (b := some (Res.ret (AV.d (D.int IntKind.i64 (wPlaces most d.places (IntKind.wrap IntKind.i64 (Int.tdiv ↑(List.length d.id) (100 : Int)))))), [])) (by kernel_rfl) ?_
  exact ret_i (by rw [e0]; rfl)
end Go.Rx12
