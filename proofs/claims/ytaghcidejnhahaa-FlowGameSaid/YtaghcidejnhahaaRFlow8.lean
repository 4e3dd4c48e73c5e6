/- A part of the proof of the law: what functions of the program come to, walked by Rx, or plain facts on it. -/
import Derived.Test.YtaghcidejnhahaaRFlow7
open Go Go.Rx Go.Proofs Go.Rx12 Go.RxTree
set_option maxRecDepth 1000000
set_option maxHeartbeats 4000000
set_option linter.unusedVariables false
set_option linter.unusedSimpArgs false
namespace Go.Rx12
abbrev ofH2 (id : List UInt8) (pl : List (List D)) (n : Nat) (w : Wk) (e : Int) : Hp :=
  [(.slot 2, .cells [.nilsl, .nilsl, .nilsl]), (.slot 32, .cells [.d (.str id), .d (.list pl), .own (.slot 21) 0 n, .own (.slot 25) 0 n, .own (.slot 27) 0 n, .own (.slot 29) 0 n, .own (.slot 23) 0 n, .own (.cell (.slot 32) 7) 0 w.next.length, .d (.int .i64 e)]),
   (.slot 21, .arr 4 1 0 (bC w.met)), (.slot 25, .arr 3 1 0 (iC w.fork)), (.slot 27, .arr 3 1 0 (iC w.deep)), (.slot 29, .arr 3 1 0 (iC w.join)), (.slot 23, .arr 3 1 0 (iC w.up)), (.cell (.slot 32) 7, .arr 3 1 0 (iC w.next))]
theorem ofE (j : Nat) (hj : 10 < j) (id : List UInt8) (ps : List PlaceT) (n : Nat) (hn : n ≤ 4096) (hps : ps.length = n) (w : Wk) (hl : w.Len n) {lp : LP} (hlp : lp = lpOf Try.prog cfg (icall Try.prog cfg j) Try.f10.ntmps 10 j (([] : Hp).map (·.1))) :
    ∀ (m i : Nat) (z e : Int) (lf : Nat) (st : St), ps.length - i = m → i ≤ ps.length → z = (i : Int) → m < lf → prune [] [2, 6, 64, 65, 66] st = some ⟨[(2, .ptr (.slot 2) 0), (6, .ptr (.slot 32) 0), (64, .d (.list (ps.map PlaceT.cells))), (65, .d (.int .i64 (ps.map PlaceT.cells).length)), (66, .d (.int .i64 z))], ofH2 id (ps.map PlaceT.cells) n w e⟩ →
      loopK Try.prog cfg (icall Try.prog cfg j) lp Try.f10.ntmps 10 [] (bodyAt Try.f10 13) lf st (exitP [] (some [2, 6])) = some (.exit 2, ⟨[(2, .ptr (.slot 2) 0), (6, .ptr (.slot 32) 0)], ofH2 id (ps.map PlaceT.cells) n w (endE w (ps.drop i) i e)⟩) := by
  intro m
  have hmx : 4097 ≤ maxLen := by decide
  induction m with
  | zero =>
    intro i z e lf st hi hle hz hlf hp
    obtain ⟨lf, rfl⟩ : ∃ n, lf = n + 1 := ⟨lf - 1, by omega⟩
    have hend : ¬ z < ((ps.map PlaceT.cells).length : Int) := by rw [List.length_map]; omega
    rw [List.drop_eq_nil_of_le (by omega), endE]
    refine loop_step hp ?_
    conv => lhs; whnf
    refine iteK_dec_f hend ?_
    conv => lhs; whnf
    refine Eq.trans (b := some (Fx.exit (2 : Nat), St.mk [((2 : Nat), AV.ptr (Nm.slot (2 : Nat)) (0 : Nat)), ((6 : Nat), AV.ptr (Nm.slot (32 : Nat)) (0 : Nat))] [(Nm.slot (2 : Nat), AObj.cells [AV.nilsl, AV.nilsl, AV.nilsl]), (Nm.slot (32 : Nat), AObj.cells [AV.d (D.str id), AV.d (D.list (List.map PlaceT.cells ps)), AV.own (Nm.slot (21 : Nat)) (0 : Nat) n, AV.own (Nm.slot (25 : Nat)) (0 : Nat) n, AV.own (Nm.slot (27 : Nat)) (0 : Nat) n, AV.own (Nm.slot (29 : Nat)) (0 : Nat) n, AV.own (Nm.slot (23 : Nat)) (0 : Nat) n, AV.own (Nm.cell (Nm.slot (32 : Nat)) (7 : Nat)) (0 : Nat) (List.length w.next), AV.d (D.int IntKind.i64 e)]), (Nm.slot (21 : Nat), AObj.arr (4 : Nat) (1 : Nat) (0 : Nat) (bC w.met)), (Nm.slot (25 : Nat), AObj.arr (3 : Nat) (1 : Nat) (0 : Nat) (iC w.fork)), (Nm.slot (27 : Nat), AObj.arr (3 : Nat) (1 : Nat) (0 : Nat) (iC w.deep)), (Nm.slot (29 : Nat), AObj.arr (3 : Nat) (1 : Nat) (0 : Nat) (iC w.join)), (Nm.slot (23 : Nat), AObj.arr (3 : Nat) (1 : Nat) (0 : Nat) (iC w.up)), (Nm.cell (Nm.slot (32 : Nat)) (7 : Nat), AObj.arr (3 : Nat) (1 : Nat) (0 : Nat) (iC w.next))])) (by kernel_rfl) ?_
    rfl
  | succ m ihm =>
    intro i z e lf st hi hle hz hlf hp
    obtain ⟨lf, rfl⟩ : ∃ n, lf = n + 1 := ⟨lf - 1, by omega⟩
    have hend : z < ((ps.map PlaceT.cells).length : Int) := by rw [List.length_map]; omega
    have hx : ps[i]? = some ps[i] := List.getElem?_eq_getElem (by omega)
    rw [List.drop_eq_getElem_cons (by omega), endE]
    generalize ps[i] = p at hx ⊢
    have hpg := place_get hx
    have hih := fun e lf st => ihm (i + 1) (IntKind.i64.wrap (z + 1)) e lf st (by omega) (by omega) (wrap_up hz (by omega))
    have hl' := hl
    obtain ⟨l1, l2, l3, l4, l5⟩ := hl'
    have a1 := bC_get (getB_some (l := w.met) (i := i) (by omega))
    have a2 := iC_get (getI_some (l := w.join) (i := i) (by omega))
    have hf8 := fail_all id (ps.map PlaceT.cells) n (bC w.met) (iC w.fork) (iC w.deep) (iC w.join) (iC w.up) w.next.length (iC w.next) e 8 j (by omega)
    by_cases g1 : getB w.met i = false
    · rw [bad_1 g1, if_pos rfl]
      rw [g1] at a1
      have hih := hih (fl e 8)
      generalize endE w (ps.drop (i + 1)) (i + 1) (fl e 8) = q at *
      refine loop_step hp ?_
      conv => lhs; whnf
      refine iteK_dec_t hend ?_
      conv => lhs; whnf
      refine nextK_of (aop_ix rfl rfl rfl rfl (ixL_at' hz hpg rfl)) ?_
      conv => lhs; whnf
      refine nextK_of (aop_ixO (i := i) rfl rfl rfl rfl rfl hz (by omega)) ?_
      conv => lhs; whnf
      refine nextK_of (aop_ldE1 rfl rfl a1 rfl rfl rfl) ?_
      conv => lhs; whnf
      refine nextK_of hf8 ?_
      conv => lhs; whnf
      refine Eq.trans (hih lf _ (by omega) rfl) ?_
      rfl
    · replace g1 : getB w.met i = true := by simpa using g1
      rw [g1] at a1
      by_cases g4 : p.kind = 4
      · by_cases g0 : getI w.join i = 0
        · rw [bad_3 g1 g4 g0, if_pos rfl]
          generalize getI w.join i = J at *
          have hih := hih (fl e 8)
          generalize endE w (ps.drop (i + 1)) (i + 1) (fl e 8) = q at *
          refine loop_step hp ?_
          conv => lhs; whnf
          refine iteK_dec_t hend ?_
          conv => lhs; whnf
          refine nextK_of (aop_ix rfl rfl rfl rfl (ixL_at' hz hpg rfl)) ?_
          conv => lhs; whnf
          refine nextK_of (aop_ixO (i := i) rfl rfl rfl rfl rfl hz (by omega)) ?_
          conv => lhs; whnf
          refine nextK_of (aop_ldE1 rfl rfl a1 rfl rfl rfl) ?_
          conv => lhs; whnf
          refine iteK_beq_t g4 ?_
          conv => lhs; whnf
          refine iteK_beq_t g4 ?_
          conv => lhs; whnf
          refine iteK_beq_t g4 ?_
          conv => lhs; whnf
          refine iteK_beq_t g4 ?_
          conv => lhs; whnf
          refine iteK_beq_t g4 ?_
          conv => lhs; whnf
          refine iteK_beq_t g4 ?_
          conv => lhs; whnf
          refine iteK_beq_t g4 ?_
          conv => lhs; whnf
          refine nextK_of (aop_ixO (i := i) rfl rfl rfl rfl rfl hz (by omega)) ?_
          conv => lhs; whnf
          refine iteK_beq_t g4 ?_
          conv => lhs; whnf
          refine nextK_of (aop_ldE1 rfl rfl a2 rfl rfl rfl) ?_
          conv => lhs; whnf
          refine iteK_beq_t g4 ?_
          conv => lhs; whnf
          refine iteK_beq_t g4 ?_
          conv => lhs; whnf
          refine iteK_beq_t g0 ?_
          conv => lhs; whnf
          refine nextK_of hf8 ?_
          conv => lhs; whnf
          refine Eq.trans (hih lf _ (by omega) rfl) ?_
          rfl
        · rw [bad_4 g1 g4 g0, if_neg (by simp)]
          generalize getI w.join i = J at *
          have hih := hih e
          generalize endE w (ps.drop (i + 1)) (i + 1) e = q at *
          refine loop_step hp ?_
          conv => lhs; whnf
          refine iteK_dec_t hend ?_
          conv => lhs; whnf
          refine nextK_of (aop_ix rfl rfl rfl rfl (ixL_at' hz hpg rfl)) ?_
          conv => lhs; whnf
          refine nextK_of (aop_ixO (i := i) rfl rfl rfl rfl rfl hz (by omega)) ?_
          conv => lhs; whnf
          refine nextK_of (aop_ldE1 rfl rfl a1 rfl rfl rfl) ?_
          conv => lhs; whnf
          refine iteK_beq_t g4 ?_
          conv => lhs; whnf
          refine iteK_beq_t g4 ?_
          conv => lhs; whnf
          refine iteK_beq_t g4 ?_
          conv => lhs; whnf
          refine iteK_beq_t g4 ?_
          conv => lhs; whnf
          refine iteK_beq_t g4 ?_
          conv => lhs; whnf
          refine iteK_beq_t g4 ?_
          conv => lhs; whnf
          refine iteK_beq_t g4 ?_
          conv => lhs; whnf
          refine nextK_of (aop_ixO (i := i) rfl rfl rfl rfl rfl hz (by omega)) ?_
          conv => lhs; whnf
          refine iteK_beq_t g4 ?_
          conv => lhs; whnf
          refine nextK_of (aop_ldE1 rfl rfl a2 rfl rfl rfl) ?_
          conv => lhs; whnf
          refine iteK_beq_t g4 ?_
          conv => lhs; whnf
          refine iteK_beq_t g4 ?_
          conv => lhs; whnf
          refine iteK_beq_f g0 ?_
          conv => lhs; whnf
          refine Eq.trans (hih lf _ (by omega) rfl) ?_
          rfl
      · rw [bad_2 g1 g4, if_neg (by simp)]
        have hih := hih e
        generalize endE w (ps.drop (i + 1)) (i + 1) e = q at *
        refine loop_step hp ?_
        conv => lhs; whnf
        refine iteK_dec_t hend ?_
        conv => lhs; whnf
        refine nextK_of (aop_ix rfl rfl rfl rfl (ixL_at' hz hpg rfl)) ?_
        conv => lhs; whnf
        refine nextK_of (aop_ixO (i := i) rfl rfl rfl rfl rfl hz (by omega)) ?_
        conv => lhs; whnf
        refine nextK_of (aop_ldE1 rfl rfl a1 rfl rfl rfl) ?_
        conv => lhs; whnf
        refine iteK_beq_f g4 ?_
        conv => lhs; whnf
        refine iteK_beq_f g4 ?_
        conv => lhs; whnf
        refine iteK_beq_f g4 ?_
        conv => lhs; whnf
        refine iteK_beq_f g4 ?_
        conv => lhs; whnf
        refine iteK_beq_f g4 ?_
        conv => lhs; whnf
        refine iteK_beq_f g4 ?_
        conv => lhs; whnf
        refine iteK_beq_f g4 ?_
        conv => lhs; whnf
        refine iteK_beq_f g4 ?_
        conv => lhs; whnf
        refine iteK_beq_f g4 ?_
        conv => lhs; whnf
        refine iteK_beq_f g4 ?_
        conv => lhs; whnf
        refine Eq.trans (hih lf _ (by omega) rfl) ?_
        rfl
end Go.Rx12
