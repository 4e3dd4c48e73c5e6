/- A part of the proof of the law: what functions of the program come to, walked by Rx, or plain facts on it. -/
import Derived.Test.YtaghcidejnhahaaRRow4
import Derived.Test.YtaghcidejnhahaaRSpecCh
open Go Go.Rx Go.Proofs Go.Rx12 Go.RxTree
set_option maxRecDepth 1000000
set_option maxHeartbeats 4000000
set_option linter.unusedVariables false
set_option linter.unusedSimpArgs false
namespace Go.Rx12
theorem rev33_L (n : Nat) (hn : n ≤ 5000) (j : Nat) {lp : LP} (hlp : lp = lpOf Try.prog cfg (icall Try.prog cfg j) Try.f33.ntmps 33 j [Nm.arg 0]) :
    ∀ (m i jn : Nat) (z2 z3 : Int) (l : List Int) (rD : List (List D)) (lf : Nat) (st : St), z2 = (i : Int) → z3 = (jn : Int) → jn < n → i ≤ n → jn ≤ i + 2 * m → l.length = n → rD = iC l → m < lf → prune [Nm.arg 0] [0, 2, 3] st = some ⟨[(0, .own (.arg 0) 0 n), (2, .d (.int .i64 z2)), (3, .d (.int .i64 z3))], [(.arg 0, .arr 3 1 0 rD)]⟩ →
      loopK Try.prog cfg (icall Try.prog cfg j) lp Try.f33.ntmps 33 [Nm.arg 0] (bodyAt Try.f33 1) lf st (exitP [Nm.arg 0] (some [])) = some (.exit 0, ⟨[], [(.arg 0, .arr 3 1 0 (iC (revS m i jn l)))]⟩) := by
  have hmx : 200000 ≤ maxLen := by decide
  intro m
  induction m with
  | zero =>
    intro i jn z2 z3 l rD lf st h2 h3 hj hi hm hl hr hlf hp
    obtain ⟨lf, rfl⟩ : ∃ n, lf = n + 1 := ⟨lf - 1, by omega⟩
    have hend : ¬ z2 < z3 := by omega
    rw [revS]
    subst hr
    refine loop_step hp ?_
    conv => lhs; whnf
    refine iteK_dec_f hend ?_
    conv => lhs; whnf
    refine Eq.trans (b := some (Fx.exit (0 : Nat), St.mk [] [(Nm.arg (0 : Nat), AObj.arr (3 : Nat) (1 : Nat) (0 : Nat) (iC l))])) (by kernel_rfl) ?_
    rfl
  | succ m ihm =>
    intro i jn z2 z3 l rD lf st h2 h3 hj hi hm hl hr hlf hp
    obtain ⟨lf, rfl⟩ : ∃ n, lf = n + 1 := ⟨lf - 1, by omega⟩
    rw [revS]
    by_cases hij : i < jn
    · have hend : z2 < z3 := by omega
      rw [if_pos hij]
      have hgi := iC_get (getI_some (l := l) (i := i) (by omega))
      have hgj := iC_get (getI_some (l := l) (i := jn) (by omega))
      rw [← hr] at hgi hgj
      have hgj2 : (rD.set i [D.int .i64 (getI l jn)])[jn]? = some [D.int .i64 (getI l jn)] := by rw [List.getElem?_set_ne (by omega)]; exact hgj
      have hw3 : IntKind.i64.wrap (z3 - 1) = ((jn - 1 : Nat) : Int) := by rw [wrap_i64 (by omega) (by omega)]; omega
      have hih := fun lf st => ihm (i + 1) (jn - 1) (IntKind.i64.wrap (z2 + 1)) (IntKind.i64.wrap (z3 - 1)) ((l.set i (getI l jn)).set jn (getI l i)) ((rD.set i [D.int .i64 (getI l jn)]).set jn [D.int .i64 (getI l i)]) lf st (wrap_up h2 (by omega)) hw3 (by omega) (by omega) (by omega) (by simpa using hl) (by rw [hr, iC_set, iC_set])
      generalize revS m (i + 1) (jn - 1) ((l.set i (getI l jn)).set jn (getI l i)) = q at *
      generalize getI l i = vi at *
      generalize getI l jn = vj at *
      refine loop_step hp ?_
      conv => lhs; whnf
      refine iteK_dec_t hend ?_
      conv => lhs; whnf
      refine iteO_t (by kernel_rfl) ?_
      conv => lhs; whnf
      refine nextK_of (aop_ixO (i := jn) rfl rfl rfl rfl rfl h3 (by omega)) ?_
      conv => lhs; whnf
      refine nextK_of (aop_ldE1 rfl rfl hgj rfl rfl rfl) ?_
      conv => lhs; whnf
      refine nextK_of (aop_ixO (i := i) rfl rfl rfl rfl rfl h2 (by omega)) ?_
      conv => lhs; whnf
      refine nextK_of (aop_ldE1 rfl rfl hgi rfl rfl rfl) ?_
      conv => lhs; whnf
      refine nextK_of (aop_ixO (i := i) rfl rfl rfl rfl rfl h2 (by omega)) ?_
      conv => lhs; whnf
      refine nextK_of (aop_stE rfl rfl rfl rfl rfl hgi rfl) ?_
      conv => lhs; whnf
      refine nextK_of (aop_ixO (i := jn) rfl rfl rfl rfl rfl h3 (by omega)) ?_
      conv => lhs; whnf
      refine nextK_of (aop_stE rfl rfl rfl rfl rfl hgj2 rfl) ?_
      conv => lhs; whnf
      refine iteO_t (by kernel_rfl) ?_
      conv => lhs; whnf
      refine Eq.trans (hih lf _ (by omega) rfl) ?_
      rfl
    · have hend : ¬ z2 < z3 := by omega
      rw [if_neg hij]
      subst hr
      refine loop_step hp ?_
      conv => lhs; whnf
      refine iteK_dec_f hend ?_
      conv => lhs; whnf
      refine Eq.trans (b := some (Fx.exit (0 : Nat), St.mk [] [(Nm.arg (0 : Nat), AObj.arr (3 : Nat) (1 : Nat) (0 : Nat) (iC l))])) (by kernel_rfl) ?_
      rfl
theorem rev33 (l : List Int) (h0 : l ≠ []) (hn : l.length ≤ 5000) (k : Nat) (hk : 5100 ≤ k) : icall Try.prog cfg k 33 [.own (.arg 0) 0 l.length] [(.arg 0, .arr 3 1 0 (iC l))] = some (.ret (.tuple []), [(.arg 0, .arr 3 1 0 (iC l.reverse))]) := by
  obtain ⟨k, rfl⟩ : ∃ j, k = j + 1 := ⟨k - 1, by omega⟩
  have hpos : 0 < l.length := List.length_pos_iff.2 h0
  have hw : IntKind.i64.wrap ((((iC l).take l.length).length : Int) - 1) = ((l.length - 1 : Nat) : Int) := by rw [iC_full, iC_len, wrap_i64 (by omega) (by omega)]; omega
  have hL := fun lf st => rev33_L l.length hn k rfl l.length 0 (l.length - 1) 0 (IntKind.i64.wrap ((((iC l).take l.length).length : Int) - 1)) l (iC l) lf st rfl hw (by omega) (by omega) (by omega) rfl rfl
  rw [rev_law l h0] at hL
  have hlf : l.length < k := by omega
  rw [icall_body rfl Try.func33]
  obtain ⟨lp, hlp⟩ : ∃ lp, lp = lpOf Try.prog cfg (icall Try.prog cfg k) Try.f33.ntmps 33 k (([(Nm.arg 0, AObj.arr 3 1 0 (iC l))] : Hp).map (·.1)) := ⟨_, rfl⟩
  rw [← hlp]
  rw [← (show lp = lpOf Try.prog cfg (icall Try.prog cfg k) Try.f33.ntmps 33 k [Nm.arg 0] from hlp)] at hL
  conv => lhs; whnf
  refine nextK_of (loop_at hlp (hL k _ hlf rfl)) ?_
  conv => lhs; whnf
  refine Eq.trans (b := some (Res.ret (AV.tuple []), [(Nm.arg (0 : Nat), AObj.arr (3 : Nat) (1 : Nat) (0 : Nat) (iC (List.reverseAux l [])))])) (by kernel_rfl) ?_
  rfl
theorem rev0E (j : Nat) {lp : LP} (hlp : lp = lpOf Try.prog cfg (icall Try.prog cfg j) Try.f33.ntmps 33 j (([] : Hp).map (·.1))) (lf : Nat) (st : St) (hlf : 0 < lf) (hp : prune [] [0, 2, 3] st = some ⟨[(0, .nilsl), (2, .d (.int .i64 0)), (3, .d (.int .i64 (-1)))], []⟩) :
      loopK Try.prog cfg (icall Try.prog cfg j) lp Try.f33.ntmps 33 [] (bodyAt Try.f33 1) lf st (exitP [] (some [])) = some (.exit 0, ⟨[], []⟩) := by
  obtain ⟨lf, rfl⟩ : ∃ n, lf = n + 1 := ⟨lf - 1, by omega⟩
  refine loop_step hp ?_
  conv => lhs; whnf
  refine Eq.trans (b := some (Fx.exit (0 : Nat), St.mk [] [])) (by kernel_rfl) ?_
  rfl
theorem rev0 (k : Nat) (hk : 100 ≤ k) : icall Try.prog cfg k 33 [.nilsl] [] = some (.ret (.tuple []), []) := by
  obtain ⟨k, rfl⟩ : ∃ j, k = j + 1 := ⟨k - 1, by omega⟩
  have hL := fun lf st => rev0E k rfl lf st
  have hlf : 0 < k := by omega
  rw [icall_body rfl Try.func33]
  obtain ⟨lp, hlp⟩ : ∃ lp, lp = lpOf Try.prog cfg (icall Try.prog cfg k) Try.f33.ntmps 33 k (([] : Hp).map (·.1)) := ⟨_, rfl⟩
  rw [← hlp]
  rw [← (show lp = lpOf Try.prog cfg (icall Try.prog cfg k) Try.f33.ntmps 33 k (([] : Hp).map (·.1)) from hlp)] at hL
  conv => lhs; whnf
  refine nextK_of (loop_at hlp (hL k _ hlf rfl)) ?_
  conv => lhs; whnf
  refine Eq.trans (b := some (Res.ret (AV.tuple []), [])) (by kernel_rfl) ?_
  rfl
theorem forks20 (id : List UInt8) (ps : List PlaceT) (n : Nat) (hps : ps.length = n) (hn : n ≤ 4096) (hn0 : 0 < n) (hO : ∀ p ∈ ps, outsOk p.out n ∧ p.out.length ≤ 16) (a : Nat) (ha : a < n) (k : Nat) (hk : 100220 ≤ k) :
    icall Try.prog cfg k 20 [.agg [.d (.str id), .d (.list (ps.map PlaceT.cells))], .d (.int .i64 (a : Int))] [] = some (.ret (.d (.list (iC (fkR2 ps a)))), []) := by
  unfold fkR2
  obtain ⟨k, rfl⟩ : ∃ j, k = j + 1 := ⟨k - 1, by omega⟩
  have hr := rows23 id ps n hps hn hn0 hO k (by omega)
  have hlen := (rowsS_ok (ps := ps) hps (fun p hp => (hO p hp).1) (m := n) (i := 0) (rowsW_ok hn0)).len
  rw [show rowsS ps n 0 (rowsW n) = rowsR ps by unfold rowsR; rw [hps]] at hlen
  have hrt := getR_some (l := (rowsR ps).1.rows) (i := a) (by rw [hlen.1]; exact ha)
  have hl1 := hlen.1
  generalize (rowsR ps).1.joins = js at *
  generalize (rowsR ps).2 = e at *
  generalize (rowsR ps).1.rows = rs at *
  generalize getR rs a = bf at *
  obtain ⟨b, f⟩ := bf
  have hrg := rC_get hrt
  have h1 : ¬ (a : Int) < 0 := by omega
  have h2 : ¬ (a : Int) ≥ ((rC rs).length : Int) := by rw [rC_len]; omega
  generalize hpc : ps.map PlaceT.cells = pl at *
  rw [icall_body rfl Try.func20]
  obtain ⟨lp, hlp⟩ : ∃ lp, lp = lpOf Try.prog cfg (icall Try.prog cfg k) Try.f20.ntmps 20 k (([] : Hp).map (·.1)) := ⟨_, rfl⟩
  rw [← hlp]
  conv => lhs; whnf
  refine nextK_of hr ?_
  conv => lhs; whnf
  refine iteK_dec_f h2 ?_
  conv => lhs; whnf
  refine nextK_of (aop_ix rfl rfl rfl rfl (ixL_at' (n := a) rfl hrg rfl)) ?_
  conv => lhs; whnf
  refine Eq.trans (b := some (Res.ret (AV.d (D.list (iC f))), [])) (by kernel_rfl) ?_
  rfl
theorem forks20o (id : List UInt8) (ps : List PlaceT) (n : Nat) (hps : ps.length = n) (hn : n ≤ 4096) (hn0 : 0 < n) (hO : ∀ p ∈ ps, outsOk p.out n ∧ p.out.length ≤ 16) (a : Int) (ha : ¬ (0 ≤ a ∧ a < (n : Int))) (k : Nat) (hk : 100220 ≤ k) :
    icall Try.prog cfg k 20 [.agg [.d (.str id), .d (.list (ps.map PlaceT.cells))], .d (.int .i64 a)] [] = some (.ret (.d (.list [])), []) := by
  obtain ⟨k, rfl⟩ : ∃ j, k = j + 1 := ⟨k - 1, by omega⟩
  have hr := rows23 id ps n hps hn hn0 hO k (by omega)
  have hlen := (rowsS_ok (ps := ps) hps (fun p hp => (hO p hp).1) (m := n) (i := 0) (rowsW_ok hn0)).len
  rw [show rowsS ps n 0 (rowsW n) = rowsR ps by unfold rowsR; rw [hps]] at hlen
  have hl1 := hlen.1
  generalize (rowsR ps).1.joins = js at *
  generalize (rowsR ps).2 = e at *
  generalize (rowsR ps).1.rows = rs at *
  generalize hpc : ps.map PlaceT.cells = pl at *
  by_cases h1 : a < 0
  · rw [icall_body rfl Try.func20]
    obtain ⟨lp, hlp⟩ : ∃ lp, lp = lpOf Try.prog cfg (icall Try.prog cfg k) Try.f20.ntmps 20 k (([] : Hp).map (·.1)) := ⟨_, rfl⟩
    rw [← hlp]
    conv => lhs; whnf
    refine nextK_of hr ?_
    conv => lhs; whnf
    refine iteK_dec_t h1 ?_
    conv => lhs; whnf
    refine iteK_dec_t h1 ?_
    conv => lhs; whnf
    refine iteK_dec_t h1 ?_
    conv => lhs; whnf
    refine iteK_dec_t h1 ?_
    conv => lhs; whnf
    refine iteK_dec_t h1 ?_
    conv => lhs; whnf
    refine Eq.trans (b := some (Res.ret (AV.d (D.list [])), [])) (by kernel_rfl) ?_
    rfl
  · have h2 : a ≥ ((rC rs).length : Int) := by rw [rC_len]; omega
    rw [icall_body rfl Try.func20]
    obtain ⟨lp, hlp⟩ : ∃ lp, lp = lpOf Try.prog cfg (icall Try.prog cfg k) Try.f20.ntmps 20 k (([] : Hp).map (·.1)) := ⟨_, rfl⟩
    rw [← hlp]
    conv => lhs; whnf
    refine nextK_of hr ?_
    conv => lhs; whnf
    refine iteK_dec_f h1 ?_
    conv => lhs; whnf
    refine iteK_dec_f h1 ?_
    conv => lhs; whnf
    refine iteK_dec_f h1 ?_
    conv => lhs; whnf
    refine iteK_dec_f h1 ?_
    conv => lhs; whnf
    refine iteK_dec_f h1 ?_
    conv => lhs; whnf
    refine iteK_dec_t h2 ?_
    conv => lhs; whnf
    refine Eq.trans (b := some (Res.ret (AV.d (D.list [])), [])) (by kernel_rfl) ?_
    rfl
theorem ints18 (a : List Int) (hm : a.length ≤ 5000) (k : Nat) (hk : 5200 ≤ k) : icall Try.prog cfg k 18 [.d (.list (iC a)), .d (.list (iC a))] [] = some (.ret (.d (.bool true)), []) := by
  obtain ⟨k, rfl⟩ : ∃ j, k = j + 1 := ⟨k - 1, by omega⟩
  have hmx : 10000 ≤ maxLen := by decide
  have c := same31 a a (by omega) k (by omega)
  rw [show sameS a a = true by rw [sameS_eq]; simp] at c
  rw [icall_body rfl Try.func18]
  obtain ⟨lp, hlp⟩ : ∃ lp, lp = lpOf Try.prog cfg (icall Try.prog cfg k) Try.f18.ntmps 18 k (([] : Hp).map (·.1)) := ⟨_, rfl⟩
  rw [← hlp]
  conv => lhs; whnf
  refine nextK_of c ?_
  conv => lhs; whnf
  refine Eq.trans (b := some (Res.ret (AV.d (D.bool true)), [])) (by kernel_rfl) ?_
  rfl
end Go.Rx12
