/- A part of the proof of the law: what functions of the program come to, walked by Rx, or plain facts on it. -/
import Derived.Test.YtaghcidejnhahaaRMove5
import Derived.Test.YtaghcidejnhahaaRJ1
import Derived.Test.YtaghcidejnhahaaRFlow10
import Derived.Test.YtaghcidejnhahaaRLawShapes
open Go Go.Rx Go.Proofs Go.Rx12 Go.RxTree
set_option maxRecDepth 1000000
set_option maxHeartbeats 4000000
set_option linter.unusedVariables false
set_option linter.unusedSimpArgs false
namespace Go.Rx12
abbrev gmF (ms fs : List Int) (z : Int) : List (Nat × AV) := [(1, .d (.list (iC ms))), (2, .d (.list (iC fs))), (3, .ptr (.slot 3) 0), (7, .ptr (.slot 7) 0), (9, .ptr (.slot 9) 0), (10, .d (.int .i64 z))]
abbrev gmH (id : List UInt8) (pl : List (List D)) (fo de jo : List Int) (tA cA : AV) (R : Hp) : Hp := [(.slot 3, .cells [.d (.str id), .d (.list pl)]), (.slot 7, .cells [.d (.list (iC fo)), .d (.list (iC de)), .d (.list (iC jo))]), (.slot 9, .cells [tA, cA])] ++ R
abbrev gmB (id : List UInt8) (pl : List (List D)) (fo de jo : List Int) (T : List TokT) (C : List Int) : Hp := gmH id pl fo de jo (.d (.list (tC T))) (.d (.list (iC C))) []
/-- Each token stands within as many plays as its place is deep. -/
def Deep (de : List Int) (T : List TokT) : Prop := ∀ t ∈ T, ∃ a : Nat, t.1 = (a : Int) ∧ de[a]? = some (t.2.length : Int)
theorem gmIn (id : List UInt8) (pl : List (List D)) (ms fs fo de jo : List Int) (z10 : Int) (T : List TokT) (C : List Int) (hT : T.length ≤ 5000) (hD : Deep de T) (j : Nat) {lp : LP} (hlp : lp = lpOf Try.prog cfg (icall Try.prog cfg j) Try.f6.ntmps 6 j (([] : Hp).map (·.1))) :
    ∀ (m i : Nat) (z : Int) (lf : Nat) (st : St), T.length - i = m → i ≤ T.length → z = (i : Int) → m < lf → prune [] [1, 2, 3, 7, 9, 10, 14] st = some ⟨gmF ms fs z10 ++ [(14, .d (.int .i64 z))], gmB id pl fo de jo T C⟩ →
      loopK Try.prog cfg (icall Try.prog cfg j) lp Try.f6.ntmps 6 [] (bodyAt Try.f6 21) lf st (exitP [] (some [1, 2, 3, 6, 7, 9, 10])) = some (.exit 2, ⟨[(1, .d (.list (iC ms))), (2, .d (.list (iC fs))), (3, .ptr (.slot 3) 0), (6, .undef), (7, .ptr (.slot 7) 0), (9, .ptr (.slot 9) 0), (10, .d (.int .i64 z10))], gmB id pl fo de jo T C⟩) := by
  have hmx : 10000 ≤ maxLen := by decide
  intro m
  induction m with
  | zero =>
    intro i z lf st hi hle hz hlf hp
    obtain ⟨lf, rfl⟩ : ∃ n, lf = n + 1 := ⟨lf - 1, by omega⟩
    have hend : ¬ z < ((tC T).length : Int) := by rw [tC_len]; omega
    refine loop_step hp ?_
    conv => lhs; whnf
    refine iteK_dec_f hend ?_
    conv => lhs; whnf
    refine Eq.trans (b := some (Fx.exit (2 : Nat), St.mk [((1 : Nat), AV.d (D.list (iC ms))), ((2 : Nat), AV.d (D.list (iC fs))), ((3 : Nat), AV.ptr (Nm.slot (3 : Nat)) (0 : Nat)), ((6 : Nat), AV.undef), ((7 : Nat), AV.ptr (Nm.slot (7 : Nat)) (0 : Nat)), ((9 : Nat), AV.ptr (Nm.slot (9 : Nat)) (0 : Nat)), ((10 : Nat), AV.d (D.int IntKind.i64 z10))] [(Nm.slot (3 : Nat), AObj.cells [AV.d (D.str id), AV.d (D.list pl)]), (Nm.slot (7 : Nat), AObj.cells [AV.d (D.list (iC fo)), AV.d (D.list (iC de)), AV.d (D.list (iC jo))]), (Nm.slot (9 : Nat), AObj.cells [AV.d (D.list (tC T)), AV.d (D.list (iC C))])])) (by kernel_rfl) ?_
    rfl
  | succ m ihm =>
    intro i z lf st hi hle hz hlf hp
    obtain ⟨lf, rfl⟩ : ∃ n, lf = n + 1 := ⟨lf - 1, by omega⟩
    have hend : z < ((tC T).length : Int) := by rw [tC_len]; omega
    have hx : T[i]? = some T[i] := List.getElem?_eq_getElem (by omega)
    obtain ⟨a, ha, hda⟩ := hD _ (List.getElem_mem (by omega : i < T.length))
    generalize T[i] = x at hx ha hda
    obtain ⟨xa, xf⟩ := x
    dsimp only at ha hda
    subst ha
    have hxg := tC_get hx
    have hdg := iC_get hda
    have hxl : ((iC xf).length : Int) = (xf.length : Int) := by rw [iC_len]
    have hih := fun lf st => ihm (i + 1) (IntKind.i64.wrap (z + 1)) lf st (by omega) (by omega) (wrap_up hz (by omega))
    refine loop_step hp ?_
    conv => lhs; whnf
    refine iteK_dec_t hend ?_
    conv => lhs; whnf
    refine iteO_t (by kernel_rfl) ?_
    conv => lhs; whnf
    refine nextK_of (aop_ix rfl rfl rfl rfl (ixL_at' hz hxg rfl)) ?_
    conv => lhs; whnf
    refine nextK_of (aop_ix rfl rfl rfl rfl (ixL_at' hz hxg rfl)) ?_
    conv => lhs; whnf
    refine nextK_of (aop_ix rfl rfl rfl rfl (ixL_at' (n := a) rfl hdg rfl)) ?_
    conv => lhs; whnf
    refine iteO_t (by kernel_rfl) ?_
    conv => lhs; whnf
    refine iteK_bne_f hxl ?_
    conv => lhs; whnf
    refine Eq.trans (hih lf _ (by omega) rfl) ?_
    rfl
theorem deep_of {ps : List PlaceT} {n : Nat} (hps : PsOk ps n) (hn0 : 0 < n) (hO : ∀ p ∈ ps, outsOk p.out n ∧ p.out.length ≤ 16) {T : List TokT} {C : List Int} (h : T = [] ∨ ∃ F P, GInv ps n (fkR ps) T C F P) : Deep (rowD (rowsR ps).1.rows) T := fun t ht => by
  rcases h with h | ⟨F, P, G⟩
  · rw [h] at ht; exact absurd ht List.not_mem_nil
  · obtain ⟨t1, t2, t3⟩ := G.tok t ht
    have hPl := hps.len
    have hok := rowsR_ok (ps := ps) (by omega) (fun p hp => by rw [hPl]; exact (hO p hp).1)
    refine ⟨t.1.toNat, by omega, ?_⟩
    rw [fk_len ps (by rw [hok.len.1, hPl]; omega), t3, List.length_map]
theorem gmOut (id : List UInt8) (ps : List PlaceT) (n : Nat) (hps : PsOk ps n) (hn : n ≤ 4096) (hn0 : 0 < n) (hO : ∀ p ∈ ps, outsOk p.out n ∧ p.out.length ≤ 16) (K : Closed ps (fkR ps)) (ms fs fo de jo : List Int) (hde : de = rowD (rowsR ps).1.rows) (hms : ms.length ≤ 60) (j : Nat) (hj : 110001 ≤ j) {lp : LP} (hlp : lp = lpOf Try.prog cfg (icall Try.prog cfg j) Try.f6.ntmps 6 j (([] : Hp).map (·.1))) :
    ∀ (m i : Nat) (z : Int) (T : List TokT) (C : List Int) (lf : Nat) (st : St), ms.length - i = m → i ≤ ms.length → z = (i : Int) → C.length ≤ i → (T = [] ∨ ∃ F P, GInv ps n (fkR ps) T C F P) → m < lf → prune [] [1, 2, 3, 7, 9, 10] st = some ⟨gmF ms fs z, gmB id (ps.map PlaceT.cells) fo de jo T C⟩ →
      loopK Try.prog cfg (icall Try.prog cfg j) lp Try.f6.ntmps 6 [] (bodyAt Try.f6 10) lf st (exitP [] (some [6])) = some (.exit 0, ⟨[(6, .undef)], []⟩) := by
  have hmx : 10000 ≤ maxLen := by decide
  intro m
  induction m with
  | zero =>
    intro i z T C lf st hi hle hz hC hG hlf hp
    obtain ⟨lf, rfl⟩ : ∃ n, lf = n + 1 := ⟨lf - 1, by omega⟩
    have hend : ¬ z < ((iC ms).length : Int) := by rw [iC_len]; omega
    generalize hpc : ps.map PlaceT.cells = pl at *
    refine loop_step hp ?_
    conv => lhs; whnf
    refine iteK_dec_f hend ?_
    conv => lhs; whnf
    refine iteK_dec_f hend ?_
    conv => lhs; whnf
    refine iteK_dec_f hend ?_
    conv => lhs; whnf
    refine iteK_dec_f hend ?_
    conv => lhs; whnf
    refine iteK_dec_f hend ?_
    conv => lhs; whnf
    refine Eq.trans (b := some (Fx.exit (0 : Nat), St.mk [((6 : Nat), AV.undef)] [])) (by kernel_rfl) ?_
    rfl
  | succ m ihm =>
    intro i z T C lf st hi hle hz hC hG hlf hp
    obtain ⟨lf, rfl⟩ : ∃ n, lf = n + 1 := ⟨lf - 1, by omega⟩
    have hend : z < ((iC ms).length : Int) := by rw [iC_len]; omega
    by_cases hT0 : T.length = 0
    · have hT0' : ¬ ((tC T).length : Int) > 0 := by rw [tC_len]; omega
      generalize hpc : ps.map PlaceT.cells = pl at *
      refine loop_step hp ?_
      conv => lhs; whnf
      refine iteK_dec_t hend ?_
      conv => lhs; whnf
      refine iteK_dec_t hend ?_
      conv => lhs; whnf
      refine iteK_dec_t hend ?_
      conv => lhs; whnf
      refine iteK_dec_t hend ?_
      conv => lhs; whnf
      refine iteK_dec_t hend ?_
      conv => lhs; whnf
      refine iteK_dec_f hT0' ?_
      conv => lhs; whnf
      refine iteK_dec_f hT0' ?_
      conv => lhs; whnf
      refine iteK_dec_f hT0' ?_
      conv => lhs; whnf
      refine iteK_dec_f hT0' ?_
      conv => lhs; whnf
      refine iteK_dec_f hT0' ?_
      conv => lhs; whnf
      refine Eq.trans (b := some (Fx.exit (0 : Nat), St.mk [((6 : Nat), AV.undef)] [])) (by kernel_rfl) ?_
      rfl
    by_cases hT2 : ¬ T.length < 200
    · have hT0' : ((tC T).length : Int) > 0 := by rw [tC_len]; omega
      have hT2' : ¬ ((tC T).length : Int) < 200 := by rw [tC_len]; omega
      generalize hpc : ps.map PlaceT.cells = pl at *
      refine loop_step hp ?_
      conv => lhs; whnf
      refine iteK_dec_t hend ?_
      conv => lhs; whnf
      refine iteK_dec_t hend ?_
      conv => lhs; whnf
      refine iteK_dec_t hend ?_
      conv => lhs; whnf
      refine iteK_dec_t hend ?_
      conv => lhs; whnf
      refine iteK_dec_t hend ?_
      conv => lhs; whnf
      refine iteK_dec_t hT0' ?_
      conv => lhs; whnf
      refine iteK_dec_t hT0' ?_
      conv => lhs; whnf
      refine iteK_dec_t hT0' ?_
      conv => lhs; whnf
      refine iteK_dec_t hT0' ?_
      conv => lhs; whnf
      refine iteK_dec_t hT0' ?_
      conv => lhs; whnf
      refine iteK_dec_f hT2' ?_
      conv => lhs; whnf
      refine Eq.trans (b := some (Fx.exit (0 : Nat), St.mk [((6 : Nat), AV.undef)] [])) (by kernel_rfl) ?_
      rfl
    have hT0' : ((tC T).length : Int) > 0 := by rw [tC_len]; omega
    have hT2' : ((tC T).length : Int) < 200 := by rw [tC_len]; omega
    obtain ⟨F, P, G⟩ := hG.resolve_left (fun h => hT0 (by rw [h]; rfl))
    have hmvx : ms[i]? = some ms[i] := List.getElem?_eq_getElem (by omega)
    generalize ms[i] = mv at hmvx
    have hmD := iC_get hmvx
    have hTpos : 0 < T.length := by omega
    obtain ⟨w, hw1, hw2⟩ := idx_ok mv (len := T.length) hTpos (by omega)
    have hrz : IntKind.u64.wrap ((tC T).length : Int) ≠ 0 := by rw [tC_len, wrap_u64 (by omega) (by omega)]; omega
    have hkw : IntKind.i64.wrap ((IntKind.u64.wrap mv).tmod (IntKind.u64.wrap ((tC T).length : Int))) = (w : Int) := by rw [tC_len]; exact hw2
    have hTx : T[w]? = some T[w] := List.getElem?_eq_getElem hw1
    obtain ⟨⟨u1, u2⟩, _, _⟩ := G.tok _ (List.mem_of_getElem? hTx)
    generalize T[w] = t at hTx u1 u2
    obtain ⟨ta, pys⟩ := t
    dsimp only at u1 u2
    obtain ⟨a, rfl⟩ : ∃ a : Nat, ta = (a : Int) := ⟨ta.toNat, by omega⟩
    have hTg := tC_get hTx
    have hPl := hps.len
    have hpx : ps[a]? = some ps[a] := List.getElem?_eq_getElem (by omega)
    generalize ps[a] = p at hpx
    have hpg := place_get hpx
    have hmv := fun fl hf0 => move21 id ps n hps hn hn0 hO K T C F P G (by omega) (by omega) w a pys hTx p hpx fl hf0 j hj
    by_cases hf : i < fs.length
    · have hfvx : fs[i]? = some fs[i] := List.getElem?_eq_getElem hf
      generalize fs[i] = fv at hfvx
      have hfD := iC_get hfvx
      have hend2 : z < ((iC fs).length : Int) := by rw [iC_len]; omega
      obtain ⟨T', C', hcall, g8, gl, gc, gG⟩ := hmv (IntKind.i64.wrap ((IntKind.u64.wrap fv).tmod 16)) (by_nn fv)
      have hDp := deep_of hps hn0 hO gG
      rw [← hde] at hDp
      have hin := fun lf st => gmIn id (ps.map PlaceT.cells) ms fs fo de jo z T' C' (by omega) hDp j hlp T'.length 0 0 lf st (by omega) (by omega) rfl
      have hih := fun lf st => ihm (i + 1) (IntKind.i64.wrap (z + 1)) T' C' lf st (by omega) (by omega) (wrap_up hz (by omega)) (by omega) gG
      have hTl' : T'.length ≤ 300 := by omega
      rw [← hkw] at hcall
      clear hmv hDp gG gl gc
      generalize hpc : ps.map PlaceT.cells = pl at *
      obtain ⟨kd, nm, nv, ar, ou⟩ := p
      dsimp only at *
      by_cases h8 : kd = 8
      · have hT1 : ((tC T).length : Int) = 1 := by rw [tC_len, g8 h8]; rfl
        subst h8
        refine loop_step hp ?_
        conv => lhs; whnf
        refine iteK_dec_t hend ?_
        conv => lhs; whnf
        refine iteK_dec_t hend ?_
        conv => lhs; whnf
        refine iteK_dec_t hend ?_
        conv => lhs; whnf
        refine iteK_dec_t hend ?_
        conv => lhs; whnf
        refine iteK_dec_t hend ?_
        conv => lhs; whnf
        refine iteK_dec_t hT0' ?_
        conv => lhs; whnf
        refine iteK_dec_t hT0' ?_
        conv => lhs; whnf
        refine iteK_dec_t hT0' ?_
        conv => lhs; whnf
        refine iteK_dec_t hT0' ?_
        conv => lhs; whnf
        refine iteK_dec_t hT0' ?_
        conv => lhs; whnf
        refine iteK_dec_t hT2' ?_
        conv => lhs; whnf
        refine iteO_t (by kernel_rfl) ?_
        conv => lhs; whnf
        refine nextK_of (aop_ix rfl rfl rfl rfl (ixL_at' hz hmD rfl)) ?_
        conv => lhs; whnf
        refine nextK_of (aop_rem rfl rfl hrz) ?_
        conv => lhs; whnf
        refine iteO_t (by kernel_rfl) ?_
        conv => lhs; whnf
        refine iteK_dec_t hend2 ?_
        conv => lhs; whnf
        refine nextK_of (aop_ix rfl rfl rfl rfl (ixL_at' hz hfD rfl)) ?_
        conv => lhs; whnf
        refine nextK_of (aop_ix rfl rfl rfl rfl (ixL_at' hkw hTg rfl)) ?_
        conv => lhs; whnf
        refine nextK_of (aop_ix rfl rfl rfl rfl (ixL_at' (n := a) rfl hpg rfl)) ?_
        conv => lhs; whnf
        refine iteK_bne_f hT1 ?_
        conv => lhs; whnf
        refine nextK_of hcall ?_
        conv => lhs; whnf
        refine nextK_of (loop_at hlp (hin j _ (by omega) rfl)) ?_
        conv => lhs; whnf
        refine Eq.trans (hih lf _ (by omega) rfl) ?_
        rfl
      · have hT1 : True := trivial
        refine loop_step hp ?_
        conv => lhs; whnf
        refine iteK_dec_t hend ?_
        conv => lhs; whnf
        refine iteK_dec_t hend ?_
        conv => lhs; whnf
        refine iteK_dec_t hend ?_
        conv => lhs; whnf
        refine iteK_dec_t hend ?_
        conv => lhs; whnf
        refine iteK_dec_t hend ?_
        conv => lhs; whnf
        refine iteK_dec_t hT0' ?_
        conv => lhs; whnf
        refine iteK_dec_t hT0' ?_
        conv => lhs; whnf
        refine iteK_dec_t hT0' ?_
        conv => lhs; whnf
        refine iteK_dec_t hT0' ?_
        conv => lhs; whnf
        refine iteK_dec_t hT0' ?_
        conv => lhs; whnf
        refine iteK_dec_t hT2' ?_
        conv => lhs; whnf
        refine iteO_t (by kernel_rfl) ?_
        conv => lhs; whnf
        refine nextK_of (aop_ix rfl rfl rfl rfl (ixL_at' hz hmD rfl)) ?_
        conv => lhs; whnf
        refine nextK_of (aop_rem rfl rfl hrz) ?_
        conv => lhs; whnf
        refine iteO_t (by kernel_rfl) ?_
        conv => lhs; whnf
        refine iteK_dec_t hend2 ?_
        conv => lhs; whnf
        refine nextK_of (aop_ix rfl rfl rfl rfl (ixL_at' hz hfD rfl)) ?_
        conv => lhs; whnf
        refine nextK_of (aop_ix rfl rfl rfl rfl (ixL_at' hkw hTg rfl)) ?_
        conv => lhs; whnf
        refine nextK_of (aop_ix rfl rfl rfl rfl (ixL_at' (n := a) rfl hpg rfl)) ?_
        conv => lhs; whnf
        refine iteK_beq_f h8 ?_
        conv => lhs; whnf
        refine iteK_beq_f h8 ?_
        conv => lhs; whnf
        refine iteK_beq_f h8 ?_
        conv => lhs; whnf
        refine iteK_beq_f h8 ?_
        conv => lhs; whnf
        refine iteK_beq_f h8 ?_
        conv => lhs; whnf
        refine nextK_of hcall ?_
        conv => lhs; whnf
        refine nextK_of (loop_at hlp (hin j _ (by omega) rfl)) ?_
        conv => lhs; whnf
        refine Eq.trans (hih lf _ (by omega) rfl) ?_
        rfl
    · have hend2 : ¬ z < ((iC fs).length : Int) := by rw [iC_len]; omega
      obtain ⟨T', C', hcall, g8, gl, gc, gG⟩ := hmv 0 (Int.le_refl 0)
      have hDp := deep_of hps hn0 hO gG
      rw [← hde] at hDp
      have hin := fun lf st => gmIn id (ps.map PlaceT.cells) ms fs fo de jo z T' C' (by omega) hDp j hlp T'.length 0 0 lf st (by omega) (by omega) rfl
      have hih := fun lf st => ihm (i + 1) (IntKind.i64.wrap (z + 1)) T' C' lf st (by omega) (by omega) (wrap_up hz (by omega)) (by omega) gG
      have hTl' : T'.length ≤ 300 := by omega
      rw [← hkw] at hcall
      clear hmv hDp gG gl gc
      generalize hpc : ps.map PlaceT.cells = pl at *
      obtain ⟨kd, nm, nv, ar, ou⟩ := p
      dsimp only at *
      by_cases h8 : kd = 8
      · have hT1 : ((tC T).length : Int) = 1 := by rw [tC_len, g8 h8]; rfl
        subst h8
        refine loop_step hp ?_
        conv => lhs; whnf
        refine iteK_dec_t hend ?_
        conv => lhs; whnf
        refine iteK_dec_t hend ?_
        conv => lhs; whnf
        refine iteK_dec_t hend ?_
        conv => lhs; whnf
        refine iteK_dec_t hend ?_
        conv => lhs; whnf
        refine iteK_dec_t hend ?_
        conv => lhs; whnf
        refine iteK_dec_t hT0' ?_
        conv => lhs; whnf
        refine iteK_dec_t hT0' ?_
        conv => lhs; whnf
        refine iteK_dec_t hT0' ?_
        conv => lhs; whnf
        refine iteK_dec_t hT0' ?_
        conv => lhs; whnf
        refine iteK_dec_t hT0' ?_
        conv => lhs; whnf
        refine iteK_dec_t hT2' ?_
        conv => lhs; whnf
        refine iteO_t (by kernel_rfl) ?_
        conv => lhs; whnf
        refine nextK_of (aop_ix rfl rfl rfl rfl (ixL_at' hz hmD rfl)) ?_
        conv => lhs; whnf
        refine nextK_of (aop_rem rfl rfl hrz) ?_
        conv => lhs; whnf
        refine iteO_t (by kernel_rfl) ?_
        conv => lhs; whnf
        refine iteK_dec_f hend2 ?_
        conv => lhs; whnf
        refine nextK_of (aop_ix rfl rfl rfl rfl (ixL_at' hkw hTg rfl)) ?_
        conv => lhs; whnf
        refine nextK_of (aop_ix rfl rfl rfl rfl (ixL_at' (n := a) rfl hpg rfl)) ?_
        conv => lhs; whnf
        refine iteK_bne_f hT1 ?_
        conv => lhs; whnf
        refine nextK_of hcall ?_
        conv => lhs; whnf
        refine nextK_of (loop_at hlp (hin j _ (by omega) rfl)) ?_
        conv => lhs; whnf
        refine Eq.trans (hih lf _ (by omega) rfl) ?_
        rfl
      · have hT1 : True := trivial
        refine loop_step hp ?_
        conv => lhs; whnf
        refine iteK_dec_t hend ?_
        conv => lhs; whnf
        refine iteK_dec_t hend ?_
        conv => lhs; whnf
        refine iteK_dec_t hend ?_
        conv => lhs; whnf
        refine iteK_dec_t hend ?_
        conv => lhs; whnf
        refine iteK_dec_t hend ?_
        conv => lhs; whnf
        refine iteK_dec_t hT0' ?_
        conv => lhs; whnf
        refine iteK_dec_t hT0' ?_
        conv => lhs; whnf
        refine iteK_dec_t hT0' ?_
        conv => lhs; whnf
        refine iteK_dec_t hT0' ?_
        conv => lhs; whnf
        refine iteK_dec_t hT0' ?_
        conv => lhs; whnf
        refine iteK_dec_t hT2' ?_
        conv => lhs; whnf
        refine iteO_t (by kernel_rfl) ?_
        conv => lhs; whnf
        refine nextK_of (aop_ix rfl rfl rfl rfl (ixL_at' hz hmD rfl)) ?_
        conv => lhs; whnf
        refine nextK_of (aop_rem rfl rfl hrz) ?_
        conv => lhs; whnf
        refine iteO_t (by kernel_rfl) ?_
        conv => lhs; whnf
        refine iteK_dec_f hend2 ?_
        conv => lhs; whnf
        refine nextK_of (aop_ix rfl rfl rfl rfl (ixL_at' hkw hTg rfl)) ?_
        conv => lhs; whnf
        refine nextK_of (aop_ix rfl rfl rfl rfl (ixL_at' (n := a) rfl hpg rfl)) ?_
        conv => lhs; whnf
        refine iteK_beq_f h8 ?_
        conv => lhs; whnf
        refine iteK_beq_f h8 ?_
        conv => lhs; whnf
        refine iteK_beq_f h8 ?_
        conv => lhs; whnf
        refine iteK_beq_f h8 ?_
        conv => lhs; whnf
        refine iteK_beq_f h8 ?_
        conv => lhs; whnf
        refine nextK_of hcall ?_
        conv => lhs; whnf
        refine nextK_of (loop_at hlp (hin j _ (by omega) rfl)) ?_
        conv => lhs; whnf
        refine Eq.trans (hih lf _ (by omega) rfl) ?_
        rfl
theorem gmFst (id : List UInt8) (ps : List PlaceT) (n : Nat) (hps : PsOk ps n) (hn : n ≤ 4096) (hn0 : 0 < n) (hO : ∀ p ∈ ps, outsOk p.out n ∧ p.out.length ≤ 16) (K : Closed ps (fkR ps)) (ms fs fo de jo : List Int) (hde : de = rowD (rowsR ps).1.rows) (hms : ms.length ≤ 60) (j : Nat) (hj : 110001 ≤ j) (h1p : ∀ p, ps[0]? = some p → p.kind = 1) {lp : LP} (hlp : lp = lpOf Try.prog cfg (icall Try.prog cfg j) Try.f6.ntmps 6 j (([] : Hp).map (·.1)))
    (z : Int) (hz : z = ((0 : Nat) : Int)) (lf : Nat) (st : St) (hlf : ms.length < lf) (hp : prune [] [1, 2, 3, 7, 9, 10] st = some ⟨gmF ms fs z, gmH id (ps.map PlaceT.cells) fo de jo (.own (.slot 46) 0 1) .nilsl [(.slot 46, .arr 49 2 0 [[.int .i64 0, .list []]])]⟩) :
      loopK Try.prog cfg (icall Try.prog cfg j) lp Try.f6.ntmps 6 [] (bodyAt Try.f6 10) lf st (exitP [] (some [6])) = some (.exit 0, ⟨[(6, .undef)], []⟩) := by
  have hmx : 10000 ≤ maxLen := by decide
  obtain ⟨lf, rfl⟩ : ∃ n, lf = n + 1 := ⟨lf - 1, by omega⟩
  by_cases hm0 : ms.length = 0
  · have hend : ¬ z < ((iC ms).length : Int) := by rw [iC_len]; omega
    generalize hpc : ps.map PlaceT.cells = pl at *
    refine loop_step hp ?_
    conv => lhs; whnf
    refine iteK_dec_f hend ?_
    conv => lhs; whnf
    refine iteK_dec_f hend ?_
    conv => lhs; whnf
    refine iteK_dec_f hend ?_
    conv => lhs; whnf
    refine iteK_dec_f hend ?_
    conv => lhs; whnf
    refine iteK_dec_f hend ?_
    conv => lhs; whnf
    refine Eq.trans (b := some (Fx.exit (0 : Nat), St.mk [((6 : Nat), AV.undef)] [])) (by kernel_rfl) ?_
    rfl
  have hend : z < ((iC ms).length : Int) := by rw [iC_len]; omega
  have G : GInv ps n (fkR ps) [(0, [])] [] [] [] := g_start K hn0
  have hmvx : ms[0]? = some ms[0] := List.getElem?_eq_getElem (by omega)
  generalize ms[0] = mv at hmvx
  have hmD := iC_get hmvx
  obtain ⟨w, hw1, hw2⟩ := idx_ok mv (len := 1) (by decide) (by decide)
  have hw0 : w = 0 := by omega
  subst hw0
  have hlen1 : ((List.take 1 [[D.int IntKind.i64 0, D.list []]]).length : Int) = ((1 : Nat) : Int) := rfl
  have hrz : IntKind.u64.wrap ((List.take 1 [[D.int IntKind.i64 0, D.list []]]).length : Int) ≠ 0 := by rw [hlen1, wrap_u64 (by omega) (by omega)]; decide
  have hkw : IntKind.i64.wrap ((IntKind.u64.wrap mv).tmod (IntKind.u64.wrap ((List.take 1 [[D.int IntKind.i64 0, D.list []]]).length : Int))) = ((0 : Nat) : Int) := by rw [hlen1]; exact hw2
  have hTx : [((0 : Int), ([] : List Int))][0]? = some (((0 : Nat) : Int), ([] : List Int)) := rfl
  have hPl := hps.len
  have hpx : ps[0]? = some ps[0] := List.getElem?_eq_getElem (by omega)
  generalize ps[0] = p at hpx
  have hpg := place_get hpx
  have hmv := fun fl hf0 => move21 id ps n hps hn hn0 hO K [((0 : Int), ([] : List Int))] ([] : List Int) [] [] G (by decide) (by decide) 0 0 [] hTx p hpx fl hf0 j hj
  have h8 : p.kind ≠ 8 := fun h => by have := h1p p hpx; rw [h] at this; exact absurd this (by decide)
  by_cases hf : 0 < fs.length
  · have hfvx : fs[0]? = some fs[0] := List.getElem?_eq_getElem hf
    generalize fs[0] = fv at hfvx
    have hfD := iC_get hfvx
    have hend2 : z < ((iC fs).length : Int) := by rw [iC_len]; omega
    obtain ⟨T', C', hcall, g8, gl, gc, gG⟩ := hmv (IntKind.i64.wrap ((IntKind.u64.wrap fv).tmod 16)) (by_nn fv)
    have hDp := deep_of hps hn0 hO gG
    rw [← hde] at hDp
    simp only [List.length_singleton, List.length_nil] at gl gc
    have hin := fun lf st => gmIn id (ps.map PlaceT.cells) ms fs fo de jo z T' C' (by omega) hDp j hlp T'.length 0 0 lf st (by omega) (by omega) rfl
    have hih := fun lf st => gmOut id ps n hps hn hn0 hO K ms fs fo de jo hde hms j hj hlp (ms.length - 1) (0 + 1) (IntKind.i64.wrap (z + 1)) T' C' lf st (by omega) (by omega) (wrap_up hz (by omega)) (by omega) gG
    have hTl' : T'.length ≤ 300 := by omega
    rw [← hkw] at hcall
    clear hmv hDp gG gl gc
    generalize hpc : ps.map PlaceT.cells = pl at *
    obtain ⟨kd, nm, nv, ar, ou⟩ := p
    dsimp only at *
    refine loop_step hp ?_
    conv => lhs; whnf
    refine iteK_dec_t hend ?_
    conv => lhs; whnf
    refine iteK_dec_t hend ?_
    conv => lhs; whnf
    refine iteK_dec_t hend ?_
    conv => lhs; whnf
    refine iteK_dec_t hend ?_
    conv => lhs; whnf
    refine iteK_dec_t hend ?_
    conv => lhs; whnf
    refine iteO_t (by kernel_rfl) ?_
    conv => lhs; whnf
    refine nextK_of (aop_ix rfl rfl rfl rfl (ixL_at' hz hmD rfl)) ?_
    conv => lhs; whnf
    refine iteO_t (by kernel_rfl) ?_
    conv => lhs; whnf
    refine iteK_dec_t hend2 ?_
    conv => lhs; whnf
    refine nextK_of (aop_ix rfl rfl rfl rfl (ixL_at' hz hfD rfl)) ?_
    conv => lhs; whnf
    refine nextK_of (aop_ixO (i := 0) rfl rfl rfl rfl rfl hkw (by omega)) ?_
    conv => lhs; whnf
    refine nextK_of (aop_ix rfl rfl rfl rfl (ixL_at' (n := 0) rfl hpg rfl)) ?_
    conv => lhs; whnf
    refine iteK_beq_f h8 ?_
    conv => lhs; whnf
    refine iteK_beq_f h8 ?_
    conv => lhs; whnf
    refine iteK_beq_f h8 ?_
    conv => lhs; whnf
    refine iteK_beq_f h8 ?_
    conv => lhs; whnf
    refine iteK_beq_f h8 ?_
    conv => lhs; whnf
    refine nextK_of hcall ?_
    conv => lhs; whnf
    refine nextK_of (loop_at hlp (hin j _ (by omega) rfl)) ?_
    conv => lhs; whnf
    refine Eq.trans (hih lf _ (by omega) rfl) ?_
    rfl
  · have hend2 : ¬ z < ((iC fs).length : Int) := by rw [iC_len]; omega
    obtain ⟨T', C', hcall, g8, gl, gc, gG⟩ := hmv 0 (Int.le_refl 0)
    have hDp := deep_of hps hn0 hO gG
    rw [← hde] at hDp
    simp only [List.length_singleton, List.length_nil] at gl gc
    have hin := fun lf st => gmIn id (ps.map PlaceT.cells) ms fs fo de jo z T' C' (by omega) hDp j hlp T'.length 0 0 lf st (by omega) (by omega) rfl
    have hih := fun lf st => gmOut id ps n hps hn hn0 hO K ms fs fo de jo hde hms j hj hlp (ms.length - 1) (0 + 1) (IntKind.i64.wrap (z + 1)) T' C' lf st (by omega) (by omega) (wrap_up hz (by omega)) (by omega) gG
    have hTl' : T'.length ≤ 300 := by omega
    rw [← hkw] at hcall
    clear hmv hDp gG gl gc
    generalize hpc : ps.map PlaceT.cells = pl at *
    obtain ⟨kd, nm, nv, ar, ou⟩ := p
    dsimp only at *
    refine loop_step hp ?_
    conv => lhs; whnf
    refine iteK_dec_t hend ?_
    conv => lhs; whnf
    refine iteK_dec_t hend ?_
    conv => lhs; whnf
    refine iteK_dec_t hend ?_
    conv => lhs; whnf
    refine iteK_dec_t hend ?_
    conv => lhs; whnf
    refine iteK_dec_t hend ?_
    conv => lhs; whnf
    refine iteO_t (by kernel_rfl) ?_
    conv => lhs; whnf
    refine nextK_of (aop_ix rfl rfl rfl rfl (ixL_at' hz hmD rfl)) ?_
    conv => lhs; whnf
    refine iteO_t (by kernel_rfl) ?_
    conv => lhs; whnf
    refine iteK_dec_f hend2 ?_
    conv => lhs; whnf
    refine nextK_of (aop_ixO (i := 0) rfl rfl rfl rfl rfl hkw (by omega)) ?_
    conv => lhs; whnf
    refine nextK_of (aop_ix rfl rfl rfl rfl (ixL_at' (n := 0) rfl hpg rfl)) ?_
    conv => lhs; whnf
    refine iteK_beq_f h8 ?_
    conv => lhs; whnf
    refine iteK_beq_f h8 ?_
    conv => lhs; whnf
    refine iteK_beq_f h8 ?_
    conv => lhs; whnf
    refine iteK_beq_f h8 ?_
    conv => lhs; whnf
    refine iteK_beq_f h8 ?_
    conv => lhs; whnf
    refine nextK_of hcall ?_
    conv => lhs; whnf
    refine nextK_of (loop_at hlp (hin j _ (by omega) rfl)) ?_
    conv => lhs; whnf
    refine Eq.trans (hih lf _ (by omega) rfl) ?_
    rfl
end Go.Rx12
