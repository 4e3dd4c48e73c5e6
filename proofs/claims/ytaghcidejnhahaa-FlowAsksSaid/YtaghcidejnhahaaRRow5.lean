/- A part of the proof of the law: what functions of the program come to, walked by Rx, or plain facts on it. -/
import Derived.Test.YtaghcidejnhahaaRRow4
import Derived.Test.YtaghcidejnhahaaRJ0
open Go Go.Rx Go.Proofs Go.Rx12 Go.RxTree
set_option maxRecDepth 1000000
set_option maxHeartbeats 4000000
set_option linter.unusedVariables false
set_option linter.unusedSimpArgs false
namespace Go.Rx12
abbrev ofrH (id : List UInt8) (pl : List (List D)) (js : List Int) (nf nd : Nat) (fD dD : List (List D)) : Hp :=
  [(.slot 1, .cells [.d (.str id), .d (.list pl)]), (.slot 2, .cells [.nilsl, .nilsl, .nilsl]), (.slot 8, .cells [.own (.slot 83) 0 nf, .own (.slot 94) 0 nd, .d (.list (iC js))]), (.slot 83, .arr 3 1 0 fD), (.slot 94, .arr 3 1 0 dD)]
abbrev ofrX (js fo de : List Int) : Option (Fx × St) := some (.exit 0, ⟨[(2, .ptr (.slot 2) 0), (3, .undef), (8, .ptr (.slot 8) 0)], [(.slot 2, .cells [.nilsl, .nilsl, .nilsl]), (.slot 8, .cells [.own (.slot 83) 0 fo.length, .own (.slot 94) 0 de.length, .d (.list (iC js))]), (.slot 83, .arr 3 1 0 (iC fo)), (.slot 94, .arr 3 1 0 (iC de))]⟩)
abbrev ofrR (js fo de : List Int) : Option (Fx × St) := some (.ret, ⟨[(2, .ptr (.slot 2) 0), (3, .d (.int .i64 8)), (8, .ptr (.slot 8) 0)], [(.slot 2, .cells [.nilsl, .nilsl, .nilsl]), (.slot 8, .cells [.own (.slot 83) 0 fo.length, .own (.slot 94) 0 de.length, .d (.list (iC js))]), (.slot 83, .arr 3 1 0 (iC fo)), (.slot 94, .arr 3 1 0 (iC de))]⟩)
abbrev ofrN (js : List Int) : Option (Fx × St) := some (.ret, ⟨[(2, .ptr (.slot 2) 0), (3, .d (.int .i64 8)), (8, .ptr (.slot 8) 0)], [(.slot 2, .cells [.nilsl, .nilsl, .nilsl]), (.slot 8, .cells [.nilsl, .nilsl, .d (.list (iC js))])]⟩)
/-- A place fails: the first, or a later one. -/
def ofrY (js fo de : List Int) : Option (Fx × St) := match fo with
  | [] => ofrN js
  | x :: r => ofrR js (x :: r) de
theorem ofrL (id : List UInt8) (ps : List PlaceT) (n : Nat) (hps : ps.length = n) (hn : n ≤ 4096) (hn0 : 0 < n) (rs : List RowT) (hrl : rs.length = n) (hrk : ∀ r ∈ rs, r.2.length ≤ 16) (js : List Int) (hjl : js.length = n) (j : Nat) {lp : LP} (hlp : lp = lpOf Try.prog cfg (icall Try.prog cfg j) Try.f11.ntmps 11 j (([] : Hp).map (·.1))) :
    ∀ (m i : Nat) (z : Int) (fo de : List Int) (nf nd : Nat) (fD dD : List (List D)) (lf : Nat) (st : St), n - i = m → i ≤ n → z = (i : Int) → fo.length = i → de.length = i → nf = fo.length → nd = de.length → fD = iC fo → dD = iC de → m < lf →
      prune [] [1, 2, 5, 6, 8, 9] st = some ⟨[(1, .ptr (.slot 1) 0), (2, .ptr (.slot 2) 0), (5, .d (.list (rC rs))), (6, .d (.list (iC js))), (8, .ptr (.slot 8) 0), (9, .d (.int .i64 z))], ofrH id (ps.map PlaceT.cells) js nf nd fD dD⟩ →
      loopK Try.prog cfg (icall Try.prog cfg j) lp Try.f11.ntmps 11 [] (bodyAt Try.f11 9) lf st (exitP [] (some [2, 3, 8])) =
        iteK (endR (ps.drop i) (rs.drop i) (js.drop i)) (ofrX js (fo ++ rowF (rs.drop i)) (de ++ rowD (rs.drop i))) (ofrR js (fo ++ badF (ps.drop i) (rs.drop i) (js.drop i)) (de ++ badD (ps.drop i) (rs.drop i) (js.drop i))) := by
  intro m
  induction m with
  | zero =>
    intro i z fo de nf nd fD dD lf st hi hle hz h1 h2 h3 h4 h5 h6 hlf hpr
    obtain ⟨lf, rfl⟩ : ∃ n, lf = n + 1 := ⟨lf - 1, by omega⟩
    generalize badF (ps.drop i) (rs.drop i) (js.drop i) = qx
    generalize badD (ps.drop i) (rs.drop i) (js.drop i) = qy
    rw [endR_end (by omega), List.drop_eq_nil_of_le (show rs.length ≤ i by omega)]
    rw [show rowF [] = [] from rfl, show rowD [] = [] from rfl, List.append_nil, List.append_nil]
    have hend : ¬ z < ((rC rs).length : Int) := by rw [rC_len]; omega
    subst h3; subst h4; subst h5; subst h6
    generalize hpc : ps.map PlaceT.cells = pl at *
    refine loop_step hpr ?_
    conv => lhs; whnf
    refine iteK_dec_f hend ?_
    conv => lhs; whnf
    refine Eq.trans (b := some (Fx.exit (0 : Nat), St.mk [((2 : Nat), AV.ptr (Nm.slot (2 : Nat)) (0 : Nat)), ((3 : Nat), AV.undef), ((8 : Nat), AV.ptr (Nm.slot (8 : Nat)) (0 : Nat))] [(Nm.slot (2 : Nat), AObj.cells [AV.nilsl, AV.nilsl, AV.nilsl]), (Nm.slot (8 : Nat), AObj.cells [AV.own (Nm.slot (83 : Nat)) (0 : Nat) (List.length fo), AV.own (Nm.slot (94 : Nat)) (0 : Nat) (List.length de), AV.d (D.list (iC js))]), (Nm.slot (83 : Nat), AObj.arr (3 : Nat) (1 : Nat) (0 : Nat) (iC fo)), (Nm.slot (94 : Nat), AObj.arr (3 : Nat) (1 : Nat) (0 : Nat) (iC de))])) (by kernel_rfl) ?_
    rfl
  | succ m ihm =>
    intro i z fo de nf nd fD dD lf st hi hle hz h1 h2 h3 h4 h5 h6 hlf hpr
    obtain ⟨lf, rfl⟩ : ∃ n, lf = n + 1 := ⟨lf - 1, by omega⟩
    have hmx : 10000 ≤ maxLen := by decide
    have hpx : ps[i]? = some ps[i] := List.getElem?_eq_getElem (by omega)
    generalize ps[i] = p at hpx
    have hrx := getR_some (l := rs) (i := i) (by omega)
    have hjx := getI_some (l := js) (i := i) (by omega)
    generalize getR rs i = bf at hrx
    generalize getI js i = J at hjx
    obtain ⟨b, fs⟩ := bf
    have hf16 := hrk _ (List.mem_of_getElem? hrx)
    dsimp only at hf16
    have hpg := place_get hpx
    have hrg := rC_get hrx
    have hjg := iC_get hjx
    have hendR := endR_drop hpx hrx hjx
    have hbF := badF_drop hpx hrx hjx
    have hbD := badD_drop hpx hrx hjx
    have hF := rowF_drop hrx
    have hD := rowD_drop hrx
    rw [hendR, hF, hD, hbF, hbD]
    clear hendR hF hD hbF hbD
    have hend : z < ((rC rs).length : Int) := by rw [rC_len]; omega
    have hfl : ((iC fs).length : Int) = (fs.length : Int) := by rw [iC_len]
    obtain ⟨kd, nm, nv, ar, ou⟩ := p
    dsimp only at *
    have hih := fun x y lf st => ihm (i + 1) (IntKind.i64.wrap (z + 1)) (fo ++ [x]) (de ++ [y]) (nf + [[D.int IntKind.i64 x]].length) (nd + [[D.int IntKind.i64 y]].length) (fD.take nf ++ [[D.int IntKind.i64 x]]) (dD.take nd ++ [[D.int IntKind.i64 y]]) lf st (by omega) (by omega) (wrap_up hz (by omega)) (by rw [List.length_append, h1]; rfl) (by rw [List.length_append, h2]; rfl) (by rw [h3, List.length_append]; rfl) (by rw [h4, List.length_append]; rfl) (by rw [h5, h3, iC_app]) (by rw [h6, h4, iC_app])
    simp only [List.append_assoc, List.singleton_append] at hih
    have hnf : nf ≤ 5000 := by omega
    have hnd : nd ≤ 5000 := by omega
    generalize hpc : ps.map PlaceT.cells = pl at *
    cases b with
    | false =>
        rw [if_pos (by simp), if_pos (by simp), if_pos (by simp)]; rw [List.append_nil, List.append_nil]; subst h3; subst h4; subst h5; subst h6
        refine loop_step hpr ?_
        conv => lhs; whnf
        refine iteK_dec_t hend ?_
        conv => lhs; whnf
        refine nextK_of (aop_ix rfl rfl rfl rfl (ixL_at' hz hrg rfl)) ?_
        conv => lhs; whnf
        refine Eq.trans (b := some (Fx.ret, St.mk [((2 : Nat), AV.ptr (Nm.slot (2 : Nat)) (0 : Nat)), ((3 : Nat), AV.d (D.int IntKind.i64 (8 : Int))), ((8 : Nat), AV.ptr (Nm.slot (8 : Nat)) (0 : Nat))] [(Nm.slot (2 : Nat), AObj.cells [AV.nilsl, AV.nilsl, AV.nilsl]), (Nm.slot (8 : Nat), AObj.cells [AV.own (Nm.slot (83 : Nat)) (0 : Nat) (List.length fo), AV.own (Nm.slot (94 : Nat)) (0 : Nat) (List.length de), AV.d (D.list (iC js))]), (Nm.slot (83 : Nat), AObj.arr (3 : Nat) (1 : Nat) (0 : Nat) (iC fo)), (Nm.slot (94 : Nat), AObj.arr (3 : Nat) (1 : Nat) (0 : Nat) (iC de))])) (by kernel_rfl) ?_
        rfl
    | true =>
      by_cases g4 : kd = 4
      · subst g4
        by_cases gJ : J = 0
        · subst gJ
          rw [if_pos (by simp), if_pos (by simp), if_pos (by simp)]; rw [List.append_nil, List.append_nil]; subst h3; subst h4; subst h5; subst h6
          refine loop_step hpr ?_
          conv => lhs; whnf
          refine iteK_dec_t hend ?_
          conv => lhs; whnf
          refine nextK_of (aop_ix rfl rfl rfl rfl (ixL_at' hz hrg rfl)) ?_
          conv => lhs; whnf
          refine nextK_of (aop_ix rfl rfl rfl rfl (ixL_at' hz hpg rfl)) ?_
          conv => lhs; whnf
          refine nextK_of (aop_ix rfl rfl rfl rfl (ixL_at' hz hjg rfl)) ?_
          conv => lhs; whnf
          refine Eq.trans (b := some (Fx.ret, St.mk [((2 : Nat), AV.ptr (Nm.slot (2 : Nat)) (0 : Nat)), ((3 : Nat), AV.d (D.int IntKind.i64 (8 : Int))), ((8 : Nat), AV.ptr (Nm.slot (8 : Nat)) (0 : Nat))] [(Nm.slot (2 : Nat), AObj.cells [AV.nilsl, AV.nilsl, AV.nilsl]), (Nm.slot (8 : Nat), AObj.cells [AV.own (Nm.slot (83 : Nat)) (0 : Nat) (List.length fo), AV.own (Nm.slot (94 : Nat)) (0 : Nat) (List.length de), AV.d (D.list (iC js))]), (Nm.slot (83 : Nat), AObj.arr (3 : Nat) (1 : Nat) (0 : Nat) (iC fo)), (Nm.slot (94 : Nat), AObj.arr (3 : Nat) (1 : Nat) (0 : Nat) (iC de))])) (by kernel_rfl) ?_
          rfl
        · by_cases g1 : fs = []
          · rw [if_neg (by simp [gJ]), if_neg (by simp [gJ]), if_neg (by simp [gJ])]
            subst g1
            rw [forkOf_nil]
            have hih := hih 0 (([] : List Int).length : Int)
            generalize endR (ps.drop (i + 1)) (rs.drop (i + 1)) (js.drop (i + 1)) = q at *
            generalize rowF (rs.drop (i + 1)) = qf at *
            generalize rowD (rs.drop (i + 1)) = qd at *
            generalize badF (ps.drop (i + 1)) (rs.drop (i + 1)) (js.drop (i + 1)) = qx at *
            generalize badD (ps.drop (i + 1)) (rs.drop (i + 1)) (js.drop (i + 1)) = qy at *
            refine loop_step hpr ?_
            conv => lhs; whnf
            refine iteK_dec_t hend ?_
            conv => lhs; whnf
            refine nextK_of (aop_ix rfl rfl rfl rfl (ixL_at' hz hrg rfl)) ?_
            conv => lhs; whnf
            refine nextK_of (aop_ix rfl rfl rfl rfl (ixL_at' hz hpg rfl)) ?_
            conv => lhs; whnf
            refine nextK_of (aop_ix rfl rfl rfl rfl (ixL_at' hz hjg rfl)) ?_
            conv => lhs; whnf
            refine iteK_beq_f gJ ?_
            conv => lhs; whnf
            refine nextK_of (aop_ix rfl rfl rfl rfl (ixL_at' hz hrg rfl)) ?_
            conv => lhs; whnf
            refine nextK_of (aop_app rfl rfl rfl rfl rfl rfl rfl rfl rfl rfl rfl rfl (lenI1 (by omega))) ?_
            conv => lhs; whnf
            refine iteO_t (by kernel_rfl) ?_
            conv => lhs; whnf
            refine nextK_of (aop_ix rfl rfl rfl rfl (ixL_at' hz hrg rfl)) ?_
            conv => lhs; whnf
            refine nextK_of (aop_app rfl rfl rfl rfl rfl rfl rfl rfl rfl rfl rfl rfl (lenI1 (by omega))) ?_
            conv => lhs; whnf
            refine iteO_t (by kernel_rfl) ?_
            conv => lhs; whnf
            refine Eq.trans (hih lf _ (by omega) rfl) ?_
            rfl
          · have g2 : fs.length ≠ 0 := fun h => g1 (List.eq_nil_of_length_eq_zero h)
            rw [if_neg (by simp [gJ]), if_neg (by simp [gJ]), if_neg (by simp [gJ])]
            have hw1 : IntKind.i64.wrap (((iC fs).length : Int) - 1) = ((fs.length - 1 : Nat) : Int) := by rw [hfl, wrap_i64 (by omega) (by omega)]; omega
            have hlx := getI_some (l := fs) (i := fs.length - 1) (by omega)
            have hlD := iC_get hlx
            rw [forkOf_some (by omega)]
            have hih := hih (getI fs (fs.length - 1)) (fs.length : Int)
            rw [← hfl] at hih
            rw [← hfl]
            have hfl2 : ((iC fs).length : Int) > 0 := by omega
            generalize getI fs (fs.length - 1) = X at *
            generalize endR (ps.drop (i + 1)) (rs.drop (i + 1)) (js.drop (i + 1)) = q at *
            generalize rowF (rs.drop (i + 1)) = qf at *
            generalize rowD (rs.drop (i + 1)) = qd at *
            generalize badF (ps.drop (i + 1)) (rs.drop (i + 1)) (js.drop (i + 1)) = qx at *
            generalize badD (ps.drop (i + 1)) (rs.drop (i + 1)) (js.drop (i + 1)) = qy at *
            refine loop_step hpr ?_
            conv => lhs; whnf
            refine iteK_dec_t hend ?_
            conv => lhs; whnf
            refine nextK_of (aop_ix rfl rfl rfl rfl (ixL_at' hz hrg rfl)) ?_
            conv => lhs; whnf
            refine nextK_of (aop_ix rfl rfl rfl rfl (ixL_at' hz hpg rfl)) ?_
            conv => lhs; whnf
            refine nextK_of (aop_ix rfl rfl rfl rfl (ixL_at' hz hjg rfl)) ?_
            conv => lhs; whnf
            refine iteK_beq_f gJ ?_
            conv => lhs; whnf
            refine nextK_of (aop_ix rfl rfl rfl rfl (ixL_at' hz hrg rfl)) ?_
            conv => lhs; whnf
            refine iteK_dec_t hfl2 ?_
            conv => lhs; whnf
            refine iteO_t (by kernel_rfl) ?_
            conv => lhs; whnf
            refine nextK_of (aop_ix rfl rfl rfl rfl (ixL_at' hz hrg rfl)) ?_
            conv => lhs; whnf
            refine nextK_of (aop_ix rfl rfl rfl rfl (ixL_at' hz hrg rfl)) ?_
            conv => lhs; whnf
            refine nextK_of (aop_ix rfl rfl rfl rfl (ixL_at' hw1 hlD rfl)) ?_
            conv => lhs; whnf
            refine iteO_t (by kernel_rfl) ?_
            conv => lhs; whnf
            refine nextK_of (aop_app rfl rfl rfl rfl rfl rfl rfl rfl rfl rfl rfl rfl (lenI1 (by omega))) ?_
            conv => lhs; whnf
            refine iteO_t (by kernel_rfl) ?_
            conv => lhs; whnf
            refine nextK_of (aop_ix rfl rfl rfl rfl (ixL_at' hz hrg rfl)) ?_
            conv => lhs; whnf
            refine nextK_of (aop_app rfl rfl rfl rfl rfl rfl rfl rfl rfl rfl rfl rfl (lenI1 (by omega))) ?_
            conv => lhs; whnf
            refine iteO_t (by kernel_rfl) ?_
            conv => lhs; whnf
            refine Eq.trans (hih lf _ (by omega) rfl) ?_
            rfl
      · by_cases g1 : fs = []
        · rw [if_neg (by simp [g4]), if_neg (by simp [g4]), if_neg (by simp [g4])]
          subst g1
          rw [forkOf_nil]
          have hih := hih 0 (([] : List Int).length : Int)
          generalize endR (ps.drop (i + 1)) (rs.drop (i + 1)) (js.drop (i + 1)) = q at *
          generalize rowF (rs.drop (i + 1)) = qf at *
          generalize rowD (rs.drop (i + 1)) = qd at *
          generalize badF (ps.drop (i + 1)) (rs.drop (i + 1)) (js.drop (i + 1)) = qx at *
          generalize badD (ps.drop (i + 1)) (rs.drop (i + 1)) (js.drop (i + 1)) = qy at *
          refine loop_step hpr ?_
          conv => lhs; whnf
          refine iteK_dec_t hend ?_
          conv => lhs; whnf
          refine nextK_of (aop_ix rfl rfl rfl rfl (ixL_at' hz hrg rfl)) ?_
          conv => lhs; whnf
          refine nextK_of (aop_ix rfl rfl rfl rfl (ixL_at' hz hpg rfl)) ?_
          conv => lhs; whnf
          refine iteK_beq_f g4 ?_
          conv => lhs; whnf
          refine iteK_beq_f g4 ?_
          conv => lhs; whnf
          refine iteK_beq_f g4 ?_
          conv => lhs; whnf
          refine iteK_beq_f g4 ?_
          conv => lhs; whnf
          refine iteK_beq_f g4 ?_
          conv => lhs; whnf
          refine iteK_beq_f g4 ?_
          conv => lhs; whnf
          refine nextK_of (aop_ix rfl rfl rfl rfl (ixL_at' hz hrg rfl)) ?_
          conv => lhs; whnf
          refine nextK_of (aop_app rfl rfl rfl rfl rfl rfl rfl rfl rfl rfl rfl rfl (lenI1 (by omega))) ?_
          conv => lhs; whnf
          refine iteO_t (by kernel_rfl) ?_
          conv => lhs; whnf
          refine nextK_of (aop_ix rfl rfl rfl rfl (ixL_at' hz hrg rfl)) ?_
          conv => lhs; whnf
          refine nextK_of (aop_app rfl rfl rfl rfl rfl rfl rfl rfl rfl rfl rfl rfl (lenI1 (by omega))) ?_
          conv => lhs; whnf
          refine iteO_t (by kernel_rfl) ?_
          conv => lhs; whnf
          refine Eq.trans (hih lf _ (by omega) rfl) ?_
          rfl
        · have g2 : fs.length ≠ 0 := fun h => g1 (List.eq_nil_of_length_eq_zero h)
          rw [if_neg (by simp [g4]), if_neg (by simp [g4]), if_neg (by simp [g4])]
          have hw1 : IntKind.i64.wrap (((iC fs).length : Int) - 1) = ((fs.length - 1 : Nat) : Int) := by rw [hfl, wrap_i64 (by omega) (by omega)]; omega
          have hlx := getI_some (l := fs) (i := fs.length - 1) (by omega)
          have hlD := iC_get hlx
          rw [forkOf_some (by omega)]
          have hih := hih (getI fs (fs.length - 1)) (fs.length : Int)
          rw [← hfl] at hih
          rw [← hfl]
          have hfl2 : ((iC fs).length : Int) > 0 := by omega
          generalize getI fs (fs.length - 1) = X at *
          generalize endR (ps.drop (i + 1)) (rs.drop (i + 1)) (js.drop (i + 1)) = q at *
          generalize rowF (rs.drop (i + 1)) = qf at *
          generalize rowD (rs.drop (i + 1)) = qd at *
          generalize badF (ps.drop (i + 1)) (rs.drop (i + 1)) (js.drop (i + 1)) = qx at *
          generalize badD (ps.drop (i + 1)) (rs.drop (i + 1)) (js.drop (i + 1)) = qy at *
          refine loop_step hpr ?_
          conv => lhs; whnf
          refine iteK_dec_t hend ?_
          conv => lhs; whnf
          refine nextK_of (aop_ix rfl rfl rfl rfl (ixL_at' hz hrg rfl)) ?_
          conv => lhs; whnf
          refine nextK_of (aop_ix rfl rfl rfl rfl (ixL_at' hz hpg rfl)) ?_
          conv => lhs; whnf
          refine iteK_beq_f g4 ?_
          conv => lhs; whnf
          refine iteK_beq_f g4 ?_
          conv => lhs; whnf
          refine iteK_beq_f g4 ?_
          conv => lhs; whnf
          refine iteK_beq_f g4 ?_
          conv => lhs; whnf
          refine iteK_beq_f g4 ?_
          conv => lhs; whnf
          refine iteK_beq_f g4 ?_
          conv => lhs; whnf
          refine nextK_of (aop_ix rfl rfl rfl rfl (ixL_at' hz hrg rfl)) ?_
          conv => lhs; whnf
          refine iteK_dec_t hfl2 ?_
          conv => lhs; whnf
          refine iteO_t (by kernel_rfl) ?_
          conv => lhs; whnf
          refine nextK_of (aop_ix rfl rfl rfl rfl (ixL_at' hz hrg rfl)) ?_
          conv => lhs; whnf
          refine nextK_of (aop_ix rfl rfl rfl rfl (ixL_at' hz hrg rfl)) ?_
          conv => lhs; whnf
          refine nextK_of (aop_ix rfl rfl rfl rfl (ixL_at' hw1 hlD rfl)) ?_
          conv => lhs; whnf
          refine iteO_t (by kernel_rfl) ?_
          conv => lhs; whnf
          refine nextK_of (aop_app rfl rfl rfl rfl rfl rfl rfl rfl rfl rfl rfl rfl (lenI1 (by omega))) ?_
          conv => lhs; whnf
          refine iteO_t (by kernel_rfl) ?_
          conv => lhs; whnf
          refine nextK_of (aop_ix rfl rfl rfl rfl (ixL_at' hz hrg rfl)) ?_
          conv => lhs; whnf
          refine nextK_of (aop_app rfl rfl rfl rfl rfl rfl rfl rfl rfl rfl rfl rfl (lenI1 (by omega))) ?_
          conv => lhs; whnf
          refine iteO_t (by kernel_rfl) ?_
          conv => lhs; whnf
          refine Eq.trans (hih lf _ (by omega) rfl) ?_
          rfl
theorem ofrF (id : List UInt8) (ps : List PlaceT) (n : Nat) (hps : ps.length = n) (hn : n ≤ 4096) (hn0 : 0 < n) (rs : List RowT) (hrl : rs.length = n) (hrk : ∀ r ∈ rs, r.2.length ≤ 16) (js : List Int) (hjl : js.length = n) (j : Nat) (hj : 5000 ≤ j) {lp : LP} (hlp : lp = lpOf Try.prog cfg (icall Try.prog cfg j) Try.f11.ntmps 11 j (([] : Hp).map (·.1))) (z : Int) (hz : z = ((0 : Nat) : Int)) (lf : Nat) (st : St) (hlf : n < lf)
    (hpr : prune [] [1, 2, 5, 6, 8, 9] st = some ⟨[(1, .ptr (.slot 1) 0), (2, .ptr (.slot 2) 0), (5, .d (.list (rC rs))), (6, .d (.list (iC js))), (8, .ptr (.slot 8) 0), (9, .d (.int .i64 z))], [(.slot 1, .cells [.d (.str id), .d (.list (ps.map PlaceT.cells))]), (.slot 2, .cells [.nilsl, .nilsl, .nilsl]), (.slot 8, .cells [.nilsl, .nilsl, .d (.list (iC js))])]⟩) :
      loopK Try.prog cfg (icall Try.prog cfg j) lp Try.f11.ntmps 11 [] (bodyAt Try.f11 9) lf st (exitP [] (some [2, 3, 8])) =
        iteK (endR ps rs js) (ofrX js (rowF rs) (rowD rs)) (ofrY js (badF ps rs js) (badD ps rs js)) := by
  obtain ⟨lf, rfl⟩ : ∃ n, lf = n + 1 := ⟨lf - 1, by omega⟩
  have hmx : 10000 ≤ maxLen := by decide
  have hpx : ps[0]? = some ps[0] := List.getElem?_eq_getElem (by omega)
  generalize ps[0] = p at hpx
  have hrx := getR_some (l := rs) (i := 0) (by omega)
  have hjx := getI_some (l := js) (i := 0) (by omega)
  generalize getR rs 0 = bf at hrx
  generalize getI js 0 = J at hjx
  obtain ⟨b, fs⟩ := bf
  have hf16 := hrk _ (List.mem_of_getElem? hrx)
  dsimp only at hf16
  have hpg := place_get hpx
  have hrg := rC_get hrx
  have hjg := iC_get hjx
  have hendR := endR_drop hpx hrx hjx
  have hbF := badF_drop hpx hrx hjx
  have hbD := badD_drop hpx hrx hjx
  have hF := rowF_drop hrx
  have hD := rowD_drop hrx
  rw [List.drop_zero] at hF hD
  rw [List.drop_zero, List.drop_zero, List.drop_zero] at hendR hbF hbD
  rw [hendR, hF, hD, hbF, hbD]
  clear hendR hF hD hbF hbD
  have hrl1 : (1 : Nat) ≤ n := hn0
  have hend : z < ((rC rs).length : Int) := by rw [rC_len]; omega
  have hfl : ((iC fs).length : Int) = (fs.length : Int) := by rw [iC_len]
  obtain ⟨kd, nm, nv, ar, ou⟩ := p
  dsimp only at *
  have hih := fun x y lf st => ofrL id ps n hps hn hn0 rs hrl hrk js hjl j hlp (n - 1) (0 + 1) (IntKind.i64.wrap (z + 1)) [x] [y] 1 1 [[D.int IntKind.i64 x]] [[D.int IntKind.i64 y]] lf st (by omega) (by omega) (wrap_up hz (by omega)) rfl rfl rfl rfl rfl rfl
  simp only [List.singleton_append] at hih
  generalize hpc : ps.map PlaceT.cells = pl at *
  cases b with
  | false =>
      rw [if_pos (by simp), if_pos (by simp), if_pos (by simp)]
      refine loop_step hpr ?_
      conv => lhs; whnf
      refine iteK_dec_t hend ?_
      conv => lhs; whnf
      refine nextK_of (aop_ix rfl rfl rfl rfl (ixL_at' hz hrg rfl)) ?_
      conv => lhs; whnf
      refine Eq.trans (b := some (Fx.ret, St.mk [((2 : Nat), AV.ptr (Nm.slot (2 : Nat)) (0 : Nat)), ((3 : Nat), AV.d (D.int IntKind.i64 (8 : Int))), ((8 : Nat), AV.ptr (Nm.slot (8 : Nat)) (0 : Nat))] [(Nm.slot (2 : Nat), AObj.cells [AV.nilsl, AV.nilsl, AV.nilsl]), (Nm.slot (8 : Nat), AObj.cells [AV.nilsl, AV.nilsl, AV.d (D.list (iC js))])])) (by kernel_rfl) ?_
      rfl
  | true =>
    by_cases g4 : kd = 4
    · subst g4
      by_cases gJ : J = 0
      · subst gJ
        rw [if_pos (by simp), if_pos (by simp), if_pos (by simp)]
        refine loop_step hpr ?_
        conv => lhs; whnf
        refine iteK_dec_t hend ?_
        conv => lhs; whnf
        refine nextK_of (aop_ix rfl rfl rfl rfl (ixL_at' hz hrg rfl)) ?_
        conv => lhs; whnf
        refine nextK_of (aop_ix rfl rfl rfl rfl (ixL_at' hz hpg rfl)) ?_
        conv => lhs; whnf
        refine nextK_of (aop_ix rfl rfl rfl rfl (ixL_at' hz hjg rfl)) ?_
        conv => lhs; whnf
        refine Eq.trans (b := some (Fx.ret, St.mk [((2 : Nat), AV.ptr (Nm.slot (2 : Nat)) (0 : Nat)), ((3 : Nat), AV.d (D.int IntKind.i64 (8 : Int))), ((8 : Nat), AV.ptr (Nm.slot (8 : Nat)) (0 : Nat))] [(Nm.slot (2 : Nat), AObj.cells [AV.nilsl, AV.nilsl, AV.nilsl]), (Nm.slot (8 : Nat), AObj.cells [AV.nilsl, AV.nilsl, AV.d (D.list (iC js))])])) (by kernel_rfl) ?_
        rfl
      · by_cases g1 : fs = []
        · rw [if_neg (by simp [gJ]), if_neg (by simp [gJ]), if_neg (by simp [gJ])]
          subst g1
          rw [forkOf_nil]
          have hih := hih 0 (([] : List Int).length : Int)
          generalize endR (ps.drop (0 + 1)) (rs.drop (0 + 1)) (js.drop (0 + 1)) = q at *
          generalize rowF (rs.drop (0 + 1)) = qf at *
          generalize rowD (rs.drop (0 + 1)) = qd at *
          generalize badF (ps.drop (0 + 1)) (rs.drop (0 + 1)) (js.drop (0 + 1)) = qx at *
          generalize badD (ps.drop (0 + 1)) (rs.drop (0 + 1)) (js.drop (0 + 1)) = qy at *
          refine loop_step hpr ?_
          conv => lhs; whnf
          refine iteK_dec_t hend ?_
          conv => lhs; whnf
          refine nextK_of (aop_ix rfl rfl rfl rfl (ixL_at' hz hrg rfl)) ?_
          conv => lhs; whnf
          refine nextK_of (aop_ix rfl rfl rfl rfl (ixL_at' hz hpg rfl)) ?_
          conv => lhs; whnf
          refine nextK_of (aop_ix rfl rfl rfl rfl (ixL_at' hz hjg rfl)) ?_
          conv => lhs; whnf
          refine iteK_beq_f gJ ?_
          conv => lhs; whnf
          refine nextK_of (aop_ix rfl rfl rfl rfl (ixL_at' hz hrg rfl)) ?_
          conv => lhs; whnf
          refine iteO_t (by kernel_rfl) ?_
          conv => lhs; whnf
          refine nextK_of (aop_ix rfl rfl rfl rfl (ixL_at' hz hrg rfl)) ?_
          conv => lhs; whnf
          refine iteO_t (by kernel_rfl) ?_
          conv => lhs; whnf
          refine Eq.trans (hih lf _ (by omega) rfl) ?_
          rfl
        · have g2 : fs.length ≠ 0 := fun h => g1 (List.eq_nil_of_length_eq_zero h)
          rw [if_neg (by simp [gJ]), if_neg (by simp [gJ]), if_neg (by simp [gJ])]
          have hw1 : IntKind.i64.wrap (((iC fs).length : Int) - 1) = ((fs.length - 1 : Nat) : Int) := by rw [hfl, wrap_i64 (by omega) (by omega)]; omega
          have hlx := getI_some (l := fs) (i := fs.length - 1) (by omega)
          have hlD := iC_get hlx
          rw [forkOf_some (by omega)]
          have hih := hih (getI fs (fs.length - 1)) (fs.length : Int)
          rw [← hfl] at hih
          rw [← hfl]
          have hfl2 : ((iC fs).length : Int) > 0 := by omega
          generalize getI fs (fs.length - 1) = X at *
          generalize endR (ps.drop (0 + 1)) (rs.drop (0 + 1)) (js.drop (0 + 1)) = q at *
          generalize rowF (rs.drop (0 + 1)) = qf at *
          generalize rowD (rs.drop (0 + 1)) = qd at *
          generalize badF (ps.drop (0 + 1)) (rs.drop (0 + 1)) (js.drop (0 + 1)) = qx at *
          generalize badD (ps.drop (0 + 1)) (rs.drop (0 + 1)) (js.drop (0 + 1)) = qy at *
          refine loop_step hpr ?_
          conv => lhs; whnf
          refine iteK_dec_t hend ?_
          conv => lhs; whnf
          refine nextK_of (aop_ix rfl rfl rfl rfl (ixL_at' hz hrg rfl)) ?_
          conv => lhs; whnf
          refine nextK_of (aop_ix rfl rfl rfl rfl (ixL_at' hz hpg rfl)) ?_
          conv => lhs; whnf
          refine nextK_of (aop_ix rfl rfl rfl rfl (ixL_at' hz hjg rfl)) ?_
          conv => lhs; whnf
          refine iteK_beq_f gJ ?_
          conv => lhs; whnf
          refine nextK_of (aop_ix rfl rfl rfl rfl (ixL_at' hz hrg rfl)) ?_
          conv => lhs; whnf
          refine iteK_dec_t hfl2 ?_
          conv => lhs; whnf
          refine iteO_t (by kernel_rfl) ?_
          conv => lhs; whnf
          refine nextK_of (aop_ix rfl rfl rfl rfl (ixL_at' hz hrg rfl)) ?_
          conv => lhs; whnf
          refine nextK_of (aop_ix rfl rfl rfl rfl (ixL_at' hz hrg rfl)) ?_
          conv => lhs; whnf
          refine nextK_of (aop_ix rfl rfl rfl rfl (ixL_at' hw1 hlD rfl)) ?_
          conv => lhs; whnf
          refine iteO_t (by kernel_rfl) ?_
          conv => lhs; whnf
          refine iteO_t (by kernel_rfl) ?_
          conv => lhs; whnf
          refine nextK_of (aop_ix rfl rfl rfl rfl (ixL_at' hz hrg rfl)) ?_
          conv => lhs; whnf
          refine iteO_t (by kernel_rfl) ?_
          conv => lhs; whnf
          refine Eq.trans (hih lf _ (by omega) rfl) ?_
          rfl
    · by_cases g1 : fs = []
      · rw [if_neg (by simp [g4]), if_neg (by simp [g4]), if_neg (by simp [g4])]
        subst g1
        rw [forkOf_nil]
        have hih := hih 0 (([] : List Int).length : Int)
        generalize endR (ps.drop (0 + 1)) (rs.drop (0 + 1)) (js.drop (0 + 1)) = q at *
        generalize rowF (rs.drop (0 + 1)) = qf at *
        generalize rowD (rs.drop (0 + 1)) = qd at *
        generalize badF (ps.drop (0 + 1)) (rs.drop (0 + 1)) (js.drop (0 + 1)) = qx at *
        generalize badD (ps.drop (0 + 1)) (rs.drop (0 + 1)) (js.drop (0 + 1)) = qy at *
        refine loop_step hpr ?_
        conv => lhs; whnf
        refine iteK_dec_t hend ?_
        conv => lhs; whnf
        refine nextK_of (aop_ix rfl rfl rfl rfl (ixL_at' hz hrg rfl)) ?_
        conv => lhs; whnf
        refine nextK_of (aop_ix rfl rfl rfl rfl (ixL_at' hz hpg rfl)) ?_
        conv => lhs; whnf
        refine iteK_beq_f g4 ?_
        conv => lhs; whnf
        refine iteK_beq_f g4 ?_
        conv => lhs; whnf
        refine iteK_beq_f g4 ?_
        conv => lhs; whnf
        refine iteK_beq_f g4 ?_
        conv => lhs; whnf
        refine iteK_beq_f g4 ?_
        conv => lhs; whnf
        refine iteK_beq_f g4 ?_
        conv => lhs; whnf
        refine nextK_of (aop_ix rfl rfl rfl rfl (ixL_at' hz hrg rfl)) ?_
        conv => lhs; whnf
        refine iteO_t (by kernel_rfl) ?_
        conv => lhs; whnf
        refine nextK_of (aop_ix rfl rfl rfl rfl (ixL_at' hz hrg rfl)) ?_
        conv => lhs; whnf
        refine iteO_t (by kernel_rfl) ?_
        conv => lhs; whnf
        refine Eq.trans (hih lf _ (by omega) rfl) ?_
        rfl
      · have g2 : fs.length ≠ 0 := fun h => g1 (List.eq_nil_of_length_eq_zero h)
        rw [if_neg (by simp [g4]), if_neg (by simp [g4]), if_neg (by simp [g4])]
        have hw1 : IntKind.i64.wrap (((iC fs).length : Int) - 1) = ((fs.length - 1 : Nat) : Int) := by rw [hfl, wrap_i64 (by omega) (by omega)]; omega
        have hlx := getI_some (l := fs) (i := fs.length - 1) (by omega)
        have hlD := iC_get hlx
        rw [forkOf_some (by omega)]
        have hih := hih (getI fs (fs.length - 1)) (fs.length : Int)
        rw [← hfl] at hih
        rw [← hfl]
        have hfl2 : ((iC fs).length : Int) > 0 := by omega
        generalize getI fs (fs.length - 1) = X at *
        generalize endR (ps.drop (0 + 1)) (rs.drop (0 + 1)) (js.drop (0 + 1)) = q at *
        generalize rowF (rs.drop (0 + 1)) = qf at *
        generalize rowD (rs.drop (0 + 1)) = qd at *
        generalize badF (ps.drop (0 + 1)) (rs.drop (0 + 1)) (js.drop (0 + 1)) = qx at *
        generalize badD (ps.drop (0 + 1)) (rs.drop (0 + 1)) (js.drop (0 + 1)) = qy at *
        refine loop_step hpr ?_
        conv => lhs; whnf
        refine iteK_dec_t hend ?_
        conv => lhs; whnf
        refine nextK_of (aop_ix rfl rfl rfl rfl (ixL_at' hz hrg rfl)) ?_
        conv => lhs; whnf
        refine nextK_of (aop_ix rfl rfl rfl rfl (ixL_at' hz hpg rfl)) ?_
        conv => lhs; whnf
        refine iteK_beq_f g4 ?_
        conv => lhs; whnf
        refine iteK_beq_f g4 ?_
        conv => lhs; whnf
        refine iteK_beq_f g4 ?_
        conv => lhs; whnf
        refine iteK_beq_f g4 ?_
        conv => lhs; whnf
        refine iteK_beq_f g4 ?_
        conv => lhs; whnf
        refine iteK_beq_f g4 ?_
        conv => lhs; whnf
        refine nextK_of (aop_ix rfl rfl rfl rfl (ixL_at' hz hrg rfl)) ?_
        conv => lhs; whnf
        refine iteK_dec_t hfl2 ?_
        conv => lhs; whnf
        refine iteO_t (by kernel_rfl) ?_
        conv => lhs; whnf
        refine nextK_of (aop_ix rfl rfl rfl rfl (ixL_at' hz hrg rfl)) ?_
        conv => lhs; whnf
        refine nextK_of (aop_ix rfl rfl rfl rfl (ixL_at' hz hrg rfl)) ?_
        conv => lhs; whnf
        refine nextK_of (aop_ix rfl rfl rfl rfl (ixL_at' hw1 hlD rfl)) ?_
        conv => lhs; whnf
        refine iteO_t (by kernel_rfl) ?_
        conv => lhs; whnf
        refine iteO_t (by kernel_rfl) ?_
        conv => lhs; whnf
        refine nextK_of (aop_ix rfl rfl rfl rfl (ixL_at' hz hrg rfl)) ?_
        conv => lhs; whnf
        refine iteO_t (by kernel_rfl) ?_
        conv => lhs; whnf
        refine Eq.trans (hih lf _ (by omega) rfl) ?_
        rfl
end Go.Rx12
