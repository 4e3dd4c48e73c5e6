/- A part of the proof of the law: what functions of the program come to, walked by Rx, or plain facts on it. -/
import Derived.Test.YtaghcidejnhahaaRMove0
open Go Go.Rx Go.Proofs Go.Rx12 Go.RxTree
set_option maxRecDepth 1000000
set_option maxHeartbeats 4000000
set_option linter.unusedVariables false
set_option linter.unusedSimpArgs false
namespace Go.Rx12
theorem lenT {n : Nat} (h : n ≤ 1000000) : (n + 1) * (32 + 1) ≤ lim := by unfold lim; omega
abbrev plC (p : PlaceT) : List AV := [.d (.int .i64 p.kind), .d (.str p.name), .d (.int .i64 p.n), .d (.list (cellsL p.arg)), .d (.list (p.out.map FlowT.cells))]
/-- The heap: a game is copied; what it holds by now. -/
abbrev mvH (id : List UInt8) (pl : List (List D)) (toks : List TokT) (came : List Int) (a : Nat) (pys : List Int) (p : PlaceT) (tA cA : AV) (R : Hp) : Hp :=
  [(.slot 4, .cells [.d (.str id), .d (.list pl)]), (.slot 5, .cells [.d (.list (tC toks)), .d (.list (iC came))]), (.slot 8, .cells [.nilsl, .nilsl]), (.slot 9, .cells [.d (.int .i64 (a : Int)), .d (.list (iC pys))]), (.slot 10, .cells (plC p)), (.slot 11, .cells [tA, cA])] ++ R
abbrev mvF (w : Nat) (fl z : Int) : List (Nat × AV) := [(2, .d (.int .i64 (w : Int))), (3, .d (.int .i64 fl)), (4, .ptr (.slot 4) 0), (5, .ptr (.slot 5) 0), (8, .ptr (.slot 8) 0), (9, .ptr (.slot 9) 0), (10, .ptr (.slot 10) 0), (11, .ptr (.slot 11) 0), (12, .d (.int .i64 z))]
abbrev mvX (id : List UInt8) (pl : List (List D)) (fl : Int) (a : Nat) (pys : List Int) (p : PlaceT) (tA cA : AV) (R : Hp) : Option (Fx × St) := some (.exit 0, ⟨[(3, .d (.int .i64 fl)), (4, .ptr (.slot 4) 0), (8, .ptr (.slot 8) 0), (9, .ptr (.slot 9) 0), (10, .ptr (.slot 10) 0), (11, .ptr (.slot 11) 0)],
  [(.slot 4, .cells [.d (.str id), .d (.list pl)]), (.slot 8, .cells [.nilsl, .nilsl]), (.slot 9, .cells [.d (.int .i64 (a : Int)), .d (.list (iC pys))]), (.slot 10, .cells (plC p)), (.slot 11, .cells [tA, cA])] ++ R⟩)
/-- What is left after the loop, by the tokens that are left. -/
def mvY (id : List UInt8) (pl : List (List D)) (came : List Int) (fl : Int) (a : Nat) (pys : List Int) (p : PlaceT) : List TokT → Option (Fx × St)
  | [] => mvX id pl fl a pys p .nilsl (.own (.slot 35) 0 came.length) [(.slot 35, .arr 3 1 0 (iC came))]
  | x :: r => mvX id pl fl a pys p (.own (.slot 55) 0 (x :: r).length) (.own (.slot 35) 0 came.length) [(.slot 55, .arr 49 2 0 (tC (x :: r))), (.slot 35, .arr 3 1 0 (iC came))]
theorem rest_drop {w i : Nat} {l : List TokT} {x : TokT} (h : l[i]? = some x) : restS w i (l.drop i) = if i = w then restS w (i + 1) (l.drop (i + 1)) else x :: restS w (i + 1) (l.drop (i + 1)) := by
  obtain ⟨h1, h2⟩ := List.getElem?_eq_some_iff.1 h
  rw [List.drop_eq_getElem_cons h1, restS, h2]
theorem mvOwn (id : List UInt8) (pl : List (List D)) (toks : List TokT) (came : List Int) (w : Nat) (fl : Int) (a : Nat) (pys : List Int) (p : PlaceT) (htl : toks.length ≤ 5000) (j : Nat) {lp : LP} (hlp : lp = lpOf Try.prog cfg (icall Try.prog cfg j) Try.f21.ntmps 21 j (([] : Hp).map (·.1))) :
    ∀ (m i : Nat) (z : Int) (acc : List TokT) (nt : Nat) (tD : List (List D)) (lf : Nat) (st : St), toks.length - i = m → i ≤ toks.length → z = (i : Int) → acc ≠ [] → acc.length ≤ i → nt = acc.length → tD = tC acc → m < lf → prune [] [2, 3, 4, 5, 8, 9, 10, 11, 12] st = some ⟨mvF w fl z, mvH id pl toks came a pys p (.own (.slot 55) 0 nt) (.own (.slot 35) 0 came.length) [(.slot 55, .arr 49 2 0 tD), (.slot 35, .arr 3 1 0 (iC came))]⟩ →
      loopK Try.prog cfg (icall Try.prog cfg j) lp Try.f21.ntmps 21 [] (bodyAt Try.f21 6) lf st (exitP [] (some [3, 4, 8, 9, 10, 11])) = mvY id pl came fl a pys p (acc ++ restS w i (toks.drop i)) := by
  have hmx : 10000 ≤ maxLen := by decide
  obtain ⟨kd, nm, nv, ar, ou⟩ := p
  intro m
  induction m with
  | zero =>
    intro i z acc nt tD lf st hi hle hz hac h1 h2 h3 hlf hp
    obtain ⟨lf, rfl⟩ : ∃ n, lf = n + 1 := ⟨lf - 1, by omega⟩
    have hend : ¬ z < ((tC toks).length : Int) := by rw [tC_len]; omega
    rw [List.drop_eq_nil_of_le (by omega), restS]
    rw [List.append_nil]
    obtain ⟨x, r, rfl⟩ := List.exists_cons_of_ne_nil hac
    subst h2; subst h3
    refine loop_step hp ?_
    conv => lhs; whnf
    refine iteK_dec_f hend ?_
    conv => lhs; whnf
    refine Eq.trans (b := some (Fx.exit (0 : Nat), St.mk [((3 : Nat), AV.d (D.int IntKind.i64 fl)), ((4 : Nat), AV.ptr (Nm.slot (4 : Nat)) (0 : Nat)), ((8 : Nat), AV.ptr (Nm.slot (8 : Nat)) (0 : Nat)), ((9 : Nat), AV.ptr (Nm.slot (9 : Nat)) (0 : Nat)), ((10 : Nat), AV.ptr (Nm.slot (10 : Nat)) (0 : Nat)), ((11 : Nat), AV.ptr (Nm.slot (11 : Nat)) (0 : Nat))] [(Nm.slot (4 : Nat), AObj.cells [AV.d (D.str id), AV.d (D.list pl)]), (Nm.slot (8 : Nat), AObj.cells [AV.nilsl, AV.nilsl]), (Nm.slot (9 : Nat), AObj.cells [AV.d (D.int IntKind.i64 ↑a), AV.d (D.list (iC pys))]), (Nm.slot (10 : Nat), AObj.cells [AV.d (D.int IntKind.i64 (PlaceT.mk kd nm nv ar ou).kind), AV.d (D.str (PlaceT.mk kd nm nv ar ou).name), AV.d (D.int IntKind.i64 (PlaceT.mk kd nm nv ar ou).n), AV.d (D.list (cellsL (PlaceT.mk kd nm nv ar ou).arg)), AV.d (D.list (List.map FlowT.cells (PlaceT.mk kd nm nv ar ou).out))]), (Nm.slot (11 : Nat), AObj.cells [AV.own (Nm.slot (55 : Nat)) (0 : Nat) (List.length (x :: r)), AV.own (Nm.slot (35 : Nat)) (0 : Nat) (List.length came)]), (Nm.slot (55 : Nat), AObj.arr (49 : Nat) (2 : Nat) (0 : Nat) ([D.int IntKind.i64 x.1, D.list (iC x.2)] :: List.map (fun t => [D.int IntKind.i64 t.fst, D.list (iC t.snd)]) r)), (Nm.slot (35 : Nat), AObj.arr (3 : Nat) (1 : Nat) (0 : Nat) (iC came))])) (by kernel_rfl) ?_
    rfl
  | succ m ihm =>
    intro i z acc nt tD lf st hi hle hz hac h1 h2 h3 hlf hp
    obtain ⟨lf, rfl⟩ : ∃ n, lf = n + 1 := ⟨lf - 1, by omega⟩
    have hend : z < ((tC toks).length : Int) := by rw [tC_len]; omega
    have hx : toks[i]? = some toks[i] := List.getElem?_eq_getElem (by omega)
    generalize toks[i] = x at hx
    rw [rest_drop hx]
    obtain ⟨xa, xf⟩ := x
    have hxg := tC_get hx
    by_cases hw : i = w
    · have hzw : ¬ z ≠ (w : Int) := by omega
      rw [if_pos hw]
      have hih := fun lf st => ihm (i + 1) (IntKind.i64.wrap (z + 1)) acc nt tD lf st (by omega) (by omega) (wrap_up hz (by omega)) hac (by omega) h2 h3
      generalize acc ++ restS w (i + 1) (toks.drop (i + 1)) = q at *
      refine loop_step hp ?_
      conv => lhs; whnf
      refine iteK_dec_t hend ?_
      conv => lhs; whnf
      refine iteK_bne (fun h1 => ?_) (fun h1 => ?_)
      · rw [bne_t h1]
        (exfalso; omega)
      · rw [bne_f h1]
        conv => lhs; whnf
        refine Eq.trans (hih lf _ (by omega) rfl) ?_
        rfl
    · have hzw : z ≠ (w : Int) := by omega
      rw [if_neg hw]
      have hnt : nt ≤ 5000 := by omega
      have hih := fun lf st => ihm (i + 1) (IntKind.i64.wrap (z + 1)) (acc ++ [(xa, xf)]) (nt + [[D.int .i64 xa, D.list (iC xf)]].length) (tD.take nt ++ [[D.int .i64 xa, D.list (iC xf)]]) lf st (by omega) (by omega) (wrap_up hz (by omega)) (by simp) (by rw [List.length_append, List.length_singleton]; omega) (by rw [h2, List.length_append]; rfl) (by rw [h3, h2, tC_app])
      rw [List.append_assoc, List.singleton_append] at hih
      generalize acc ++ (xa, xf) :: restS w (i + 1) (toks.drop (i + 1)) = q at *
      refine loop_step hp ?_
      conv => lhs; whnf
      refine iteK_dec_t hend ?_
      conv => lhs; whnf
      refine iteK_bne_t hzw ?_
      conv => lhs; whnf
      refine iteO_t (by kernel_rfl) ?_
      conv => lhs; whnf
      refine nextK_of (aop_ix rfl rfl rfl rfl (ixL_at' hz hxg rfl)) ?_
      conv => lhs; whnf
      refine nextK_of (aop_app rfl rfl rfl rfl rfl rfl rfl rfl rfl rfl rfl rfl (lenT (by omega))) ?_
      conv => lhs; whnf
      refine iteO_t (by kernel_rfl) ?_
      conv => lhs; whnf
      refine Eq.trans (hih lf _ (by omega) rfl) ?_
      rfl
theorem mvNil (id : List UInt8) (pl : List (List D)) (toks : List TokT) (came : List Int) (w : Nat) (fl : Int) (a : Nat) (pys : List Int) (p : PlaceT) (htl : toks.length ≤ 5000) (j : Nat) {lp : LP} (hlp : lp = lpOf Try.prog cfg (icall Try.prog cfg j) Try.f21.ntmps 21 j (([] : Hp).map (·.1))) :
    ∀ (m i : Nat) (z : Int) (lf : Nat) (st : St), toks.length - i = m → i ≤ toks.length → z = (i : Int) → m < lf → prune [] [2, 3, 4, 5, 8, 9, 10, 11, 12] st = some ⟨mvF w fl z, mvH id pl toks came a pys p .nilsl (.own (.slot 35) 0 came.length) [(.slot 35, .arr 3 1 0 (iC came))]⟩ →
      loopK Try.prog cfg (icall Try.prog cfg j) lp Try.f21.ntmps 21 [] (bodyAt Try.f21 6) lf st (exitP [] (some [3, 4, 8, 9, 10, 11])) = mvY id pl came fl a pys p (restS w i (toks.drop i)) := by
  have hmx : 10000 ≤ maxLen := by decide
  obtain ⟨kd, nm, nv, ar, ou⟩ := p
  intro m
  induction m with
  | zero =>
    intro i z lf st hi hle hz hlf hp
    obtain ⟨lf, rfl⟩ : ∃ n, lf = n + 1 := ⟨lf - 1, by omega⟩
    have hend : ¬ z < ((tC toks).length : Int) := by rw [tC_len]; omega
    rw [List.drop_eq_nil_of_le (by omega), restS]
    refine loop_step hp ?_
    conv => lhs; whnf
    refine iteK_dec_f hend ?_
    conv => lhs; whnf
    refine Eq.trans (b := some (Fx.exit (0 : Nat), St.mk [((3 : Nat), AV.d (D.int IntKind.i64 fl)), ((4 : Nat), AV.ptr (Nm.slot (4 : Nat)) (0 : Nat)), ((8 : Nat), AV.ptr (Nm.slot (8 : Nat)) (0 : Nat)), ((9 : Nat), AV.ptr (Nm.slot (9 : Nat)) (0 : Nat)), ((10 : Nat), AV.ptr (Nm.slot (10 : Nat)) (0 : Nat)), ((11 : Nat), AV.ptr (Nm.slot (11 : Nat)) (0 : Nat))] [(Nm.slot (4 : Nat), AObj.cells [AV.d (D.str id), AV.d (D.list pl)]), (Nm.slot (8 : Nat), AObj.cells [AV.nilsl, AV.nilsl]), (Nm.slot (9 : Nat), AObj.cells [AV.d (D.int IntKind.i64 ↑a), AV.d (D.list (iC pys))]), (Nm.slot (10 : Nat), AObj.cells [AV.d (D.int IntKind.i64 (PlaceT.mk kd nm nv ar ou).kind), AV.d (D.str (PlaceT.mk kd nm nv ar ou).name), AV.d (D.int IntKind.i64 (PlaceT.mk kd nm nv ar ou).n), AV.d (D.list (cellsL (PlaceT.mk kd nm nv ar ou).arg)), AV.d (D.list (List.map FlowT.cells (PlaceT.mk kd nm nv ar ou).out))]), (Nm.slot (11 : Nat), AObj.cells [AV.nilsl, AV.own (Nm.slot (35 : Nat)) (0 : Nat) (List.length came)]), (Nm.slot (35 : Nat), AObj.arr (3 : Nat) (1 : Nat) (0 : Nat) (iC came))])) (by kernel_rfl) ?_
    rfl
  | succ m ihm =>
    intro i z lf st hi hle hz hlf hp
    obtain ⟨lf, rfl⟩ : ∃ n, lf = n + 1 := ⟨lf - 1, by omega⟩
    have hend : z < ((tC toks).length : Int) := by rw [tC_len]; omega
    have hx : toks[i]? = some toks[i] := List.getElem?_eq_getElem (by omega)
    generalize toks[i] = x at hx
    rw [rest_drop hx]
    obtain ⟨xa, xf⟩ := x
    have hxg := tC_get hx
    by_cases hw : i = w
    · have hzw : ¬ z ≠ (w : Int) := by omega
      rw [if_pos hw]
      have hih := fun lf st => ihm (i + 1) (IntKind.i64.wrap (z + 1)) lf st (by omega) (by omega) (wrap_up hz (by omega))
      generalize restS w (i + 1) (toks.drop (i + 1)) = q at *
      refine loop_step hp ?_
      conv => lhs; whnf
      refine iteK_dec_t hend ?_
      conv => lhs; whnf
      refine iteK_bne (fun h1 => ?_) (fun h1 => ?_)
      · rw [bne_t h1]
        (exfalso; omega)
      · rw [bne_f h1]
        conv => lhs; whnf
        refine Eq.trans (hih lf _ (by omega) rfl) ?_
        rfl
    · have hzw : z ≠ (w : Int) := by omega
      rw [if_neg hw]
      have hih := fun lf st => mvOwn id pl toks came w fl a pys ⟨kd, nm, nv, ar, ou⟩ htl j hlp m (i + 1) (IntKind.i64.wrap (z + 1)) [(xa, xf)] 1 [[D.int .i64 xa, D.list (iC xf)]] lf st (by omega) (by omega) (wrap_up hz (by omega)) (by simp) (by simp) rfl rfl
      rw [List.singleton_append] at hih
      generalize (xa, xf) :: restS w (i + 1) (toks.drop (i + 1)) = q at *
      refine loop_step hp ?_
      conv => lhs; whnf
      refine iteK_dec_t hend ?_
      conv => lhs; whnf
      refine iteK_bne_t hzw ?_
      conv => lhs; whnf
      refine iteO_t (by kernel_rfl) ?_
      conv => lhs; whnf
      refine nextK_of (aop_ix rfl rfl rfl rfl (ixL_at' hz hxg rfl)) ?_
      conv => lhs; whnf
      refine iteO_t (by kernel_rfl) ?_
      conv => lhs; whnf
      refine Eq.trans (hih lf _ (by omega) rfl) ?_
      rfl
end Go.Rx12
