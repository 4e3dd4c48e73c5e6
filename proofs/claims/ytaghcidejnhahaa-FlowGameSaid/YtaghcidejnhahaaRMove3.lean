/- A part of the proof of the law: what functions of the program come to, walked by Rx, or plain facts on it. -/
import Derived.Test.YtaghcidejnhahaaRMove2
open Go Go.Rx Go.Proofs Go.Rx12 Go.RxTree
set_option maxRecDepth 1000000
set_option maxHeartbeats 4000000
set_option linter.unusedVariables false
set_option linter.unusedSimpArgs false
namespace Go.Rx12
theorem aop_rem {P : Program} {dst : Nat} {ρ : Operand → AV} {H : Hp} {t u : TypeId} {x y : Operand} {k : IntKind} {a b : Int} (hx : ρ x = .d (.int k a)) (hy : ρ y = .d (.int k b)) (hb : b ≠ 0) :
    aop P dst ρ H (.binOp .rem t x y u) = some (.d (.int k (a.tmod b)), H) := by
  simp only [aop, aBin, hx, hy, bInt, if_neg hb, if_true, Option.map_some]
  rfl
/-- A game. -/
abbrev gameV (t : List TokT) (c : List Int) : AV := .agg [.d (.list (tC t)), .d (.list (iC c))]
/-- The only token, before any play. -/
theorem mvOneE (id : List UInt8) (pl : List (List D)) (toks : List TokT) (fl : Int) (a : Nat) (p : PlaceT) (hto : toks = [((a : Int), [])]) (j : Nat) {lp : LP} (hlp : lp = lpOf Try.prog cfg (icall Try.prog cfg j) Try.f21.ntmps 21 j (([] : Hp).map (·.1))) (lf : Nat) (st : St) (hlf : 0 < lf)
    (hp : prune [] [2, 3, 4, 5, 8, 9, 10, 11, 12] st = some ⟨mvF 0 fl 1, mvH id pl toks [] a [] p .nilsl .nilsl []⟩) :
    loopK Try.prog cfg (icall Try.prog cfg j) lp Try.f21.ntmps 21 [] (bodyAt Try.f21 6) lf st (exitP [] (some [3, 4, 8, 9, 10, 11])) = mvX id pl fl a [] p .nilsl .nilsl [] := by
  obtain ⟨lf, rfl⟩ : ∃ n, lf = n + 1 := ⟨lf - 1, by omega⟩
  obtain ⟨kd, nm, nv, ar, ou⟩ := p
  have hend : ¬ (1 : Int) < ((tC toks).length : Int) := by rw [hto, tC_len]; exact (by decide : ¬ (1 : Int) < ((1 : Nat) : Int))
  refine loop_step hp ?_
  conv => lhs; whnf
  refine iteK_dec_f hend ?_
  conv => lhs; whnf
  refine Eq.trans (b := some (Fx.exit (0 : Nat), St.mk [((3 : Nat), AV.d (D.int IntKind.i64 fl)), ((4 : Nat), AV.ptr (Nm.slot (4 : Nat)) (0 : Nat)), ((8 : Nat), AV.ptr (Nm.slot (8 : Nat)) (0 : Nat)), ((9 : Nat), AV.ptr (Nm.slot (9 : Nat)) (0 : Nat)), ((10 : Nat), AV.ptr (Nm.slot (10 : Nat)) (0 : Nat)), ((11 : Nat), AV.ptr (Nm.slot (11 : Nat)) (0 : Nat))] [(Nm.slot (4 : Nat), AObj.cells [AV.d (D.str id), AV.d (D.list pl)]), (Nm.slot (8 : Nat), AObj.cells [AV.nilsl, AV.nilsl]), (Nm.slot (9 : Nat), AObj.cells [AV.d (D.int IntKind.i64 ↑a), AV.d (D.list [])]), (Nm.slot (10 : Nat), AObj.cells [AV.d (D.int IntKind.i64 (PlaceT.mk kd nm nv ar ou).kind), AV.d (D.str (PlaceT.mk kd nm nv ar ou).name), AV.d (D.int IntKind.i64 (PlaceT.mk kd nm nv ar ou).n), AV.d (D.list (cellsL (PlaceT.mk kd nm nv ar ou).arg)), AV.d (D.list (List.map FlowT.cells (PlaceT.mk kd nm nv ar ou).out))]), (Nm.slot (11 : Nat), AObj.cells [AV.nilsl, AV.nilsl])])) (by kernel_rfl) ?_
  rfl
theorem mvOne (id : List UInt8) (pl : List (List D)) (toks : List TokT) (fl : Int) (a : Nat) (p : PlaceT) (hto : toks = [((a : Int), [])]) (j : Nat) {lp : LP} (hlp : lp = lpOf Try.prog cfg (icall Try.prog cfg j) Try.f21.ntmps 21 j (([] : Hp).map (·.1))) (lf : Nat) (st : St) (hlf : 1 < lf)
    (hp : prune [] [2, 3, 4, 5, 8, 9, 10, 11, 12] st = some ⟨mvF 0 fl 0, mvH id pl toks [] a [] p .nilsl .nilsl []⟩) :
    loopK Try.prog cfg (icall Try.prog cfg j) lp Try.f21.ntmps 21 [] (bodyAt Try.f21 6) lf st (exitP [] (some [3, 4, 8, 9, 10, 11])) = mvX id pl fl a [] p .nilsl .nilsl [] := by
  obtain ⟨lf, rfl⟩ : ∃ n, lf = n + 1 := ⟨lf - 1, by omega⟩
  have hih := fun lf st => mvOneE id pl toks fl a p hto j hlp lf st
  obtain ⟨kd, nm, nv, ar, ou⟩ := p
  have hend : (0 : Int) < ((tC toks).length : Int) := by rw [hto, tC_len]; exact (by decide : (0 : Int) < ((1 : Nat) : Int))
  refine loop_step hp ?_
  conv => lhs; whnf
  refine iteK_dec_t hend ?_
  conv => lhs; whnf
  refine Eq.trans (hih lf _ (by omega) rfl) ?_
  rfl
theorem rest_le : ∀ (w i : Nat) (l : List TokT), (restS w i l).length ≤ l.length
  | w, i, [] => Nat.le_refl _
  | w, i, t :: r => by
    have := rest_le w (i + 1) r
    rw [restS]; split <;> simp <;> omega
theorem congr2 {a b c d : List (List D)} (h1 : a = b) (h2 : c = d) : (some (Res.ret (AV.agg [.d (.list a), .d (.list c)]), ([] : Hp))) = some (Res.ret (AV.agg [.d (.list b), .d (.list d)]), ([] : Hp)) := by rw [h1, h2]
theorem mv8N (id : List UInt8) (ps : List PlaceT) (n : Nat) (hps : ps.length = n) (hn : n ≤ 4096) (hn0 : 0 < n) (hO : ∀ p ∈ ps, outsOk p.out n ∧ p.out.length ≤ 16) (toks : List TokT) (htl : toks.length ≤ 5000) (fl : Int) (a : Nat) (p : PlaceT) (hp : ps[a]? = some p) (hto : toks = [((a : Int), [])]) (hk8 : p.kind = 8) (k : Nat) (hk : 6000 ≤ k) :
    icall Try.prog cfg (k + 1) 21 [.agg [.d (.str id), .d (.list (ps.map PlaceT.cells))], .agg [.d (.list (tC toks)), .d (.list (iC []))], .d (.int .i64 ((0 : Nat) : Int)), .d (.int .i64 fl)] [] = some (.ret (gameV [] []), []) := by
  have hpg := place_get hp
  have htg : (tC toks)[0]? = some [.int .i64 (a : Int), .list (iC [])] := by rw [hto]; rfl
  have h6 := fun lf st => mvOne id (ps.map PlaceT.cells) toks fl a p hto k rfl lf st
  have t1 := iC_full ([] : List Int)
  generalize hpc : ps.map PlaceT.cells = pl at *
  obtain ⟨kd, nm, nv, ar, ou⟩ := p
  dsimp only at *
  subst hk8
  rw [icall_body rfl Try.func21]
  obtain ⟨lp, hlp⟩ : ∃ lp, lp = lpOf Try.prog cfg (icall Try.prog cfg k) Try.f21.ntmps 21 k (([] : Hp).map (·.1)) := ⟨_, rfl⟩
  rw [← hlp]
  rw [← (show lp = lpOf Try.prog cfg (icall Try.prog cfg k) Try.f21.ntmps 21 k (([] : Hp).map (·.1)) from hlp)] at h6
  conv => lhs; whnf
  refine nextK_of (aop_ix rfl rfl rfl rfl (ixL_at' (n := 0) rfl htg rfl)) ?_
  conv => lhs; whnf
  refine nextK_of (aop_ix rfl rfl rfl rfl (ixL_at' (n := a) rfl hpg rfl)) ?_
  conv => lhs; whnf
  refine nextK_of (loop_at hlp (h6 k _ (by omega) rfl)) ?_
  conv => lhs; whnf
  refine Eq.trans (b := some (Res.ret (AV.agg [AV.d (D.list []), AV.d (D.list [])]), [])) (by kernel_rfl) ?_
  rfl
theorem mv8C (id : List UInt8) (ps : List PlaceT) (n : Nat) (hps : ps.length = n) (hn : n ≤ 4096) (hn0 : 0 < n) (hO : ∀ p ∈ ps, outsOk p.out n ∧ p.out.length ≤ 16) (toks : List TokT) (htl : toks.length ≤ 5000) (fl : Int) (a : Nat) (p : PlaceT) (hp : ps[a]? = some p) (came : List Int) (hc0 : came ≠ []) (hcl : came.length ≤ 1000) (w : Nat) (ht : toks[w]? = some ((a : Int), [])) (hr : restS w 0 toks = []) (hk8 : p.kind = 8) (k : Nat) (hk : 6000 ≤ k) :
    icall Try.prog cfg (k + 1) 21 [.agg [.d (.str id), .d (.list (ps.map PlaceT.cells))], .agg [.d (.list (tC toks)), .d (.list (iC came))], .d (.int .i64 ((w : Nat) : Int)), .d (.int .i64 fl)] [] = some (.ret (gameV [] came), []) := by
  have hpg := place_get hp
  have htg : (tC toks)[w]? = some [.int .i64 (a : Int), .list (iC [])] := tC_get ht
  have h6 := fun lf st => mvNil id (ps.map PlaceT.cells) toks came w fl a [] p htl k rfl toks.length 0 0 lf st (by omega) (by omega) rfl
  rw [List.drop_zero, hr] at h6
  simp only [mvY] at h6
  have t1 := iC_full came
  generalize hpc : ps.map PlaceT.cells = pl at *
  obtain ⟨kd, nm, nv, ar, ou⟩ := p
  dsimp only at *
  subst hk8
  rw [icall_body rfl Try.func21]
  obtain ⟨lp, hlp⟩ : ∃ lp, lp = lpOf Try.prog cfg (icall Try.prog cfg k) Try.f21.ntmps 21 k (([] : Hp).map (·.1)) := ⟨_, rfl⟩
  rw [← hlp]
  rw [← (show lp = lpOf Try.prog cfg (icall Try.prog cfg k) Try.f21.ntmps 21 k (([] : Hp).map (·.1)) from hlp)] at h6
  conv => lhs; whnf
  refine nextK_of (aop_ix rfl rfl rfl rfl (ixL_at' (n := w) rfl htg rfl)) ?_
  conv => lhs; whnf
  refine nextK_of (aop_ix rfl rfl rfl rfl (ixL_at' (n := a) rfl hpg rfl)) ?_
  conv => lhs; whnf
  refine nextK_of (aop_beginF (fs := came) rfl rfl rfl rfl rfl rfl rfl rfl rfl rfl rfl rfl rfl hc0 (by omega)) ?_
  conv => lhs; whnf
  refine nextK_of (loop_at hlp (h6 k _ (by omega) rfl)) ?_
  conv => lhs; whnf
  refine Eq.trans (b := some (Res.ret (AV.agg [AV.d (D.list []), AV.d (D.list (List.take (List.length came) (iC came)))]), [])) (by kernel_rfl) ?_
  (rw [t1]; rfl)
theorem mv4A (id : List UInt8) (ps : List PlaceT) (n : Nat) (hps : ps.length = n) (hn : n ≤ 4096) (hn0 : 0 < n) (hO : ∀ p ∈ ps, outsOk p.out n ∧ p.out.length ≤ 16) (toks : List TokT) (htl : toks.length ≤ 5000) (fl : Int) (a : Nat) (p : PlaceT) (hp : ps[a]? = some p) (hto : toks = [((a : Int), [])]) (hk4 : p.kind = 4) (h0 : 0 < p.out.length) (k : Nat) (hk : 6000 ≤ k) :
    icall Try.prog cfg (k + 1) 21 [.agg [.d (.str id), .d (.list (ps.map PlaceT.cells))], .agg [.d (.list (tC toks)), .d (.list (iC []))], .d (.int .i64 ((0 : Nat) : Int)), .d (.int .i64 fl)] [] = some (.ret (gameV (forkT p.out [(0 : Int)]) ([] ++ [0])), []) := by
  have hpg := place_get hp
  have htg : (tC toks)[0]? = some [.int .i64 (a : Int), .list (iC [])] := by rw [hto]; rfl
  have h6 := fun lf st => mvOne id (ps.map PlaceT.cells) toks fl a p hto k rfl lf st
  have hol := (hO p (List.mem_of_getElem? hp)).2
  have h18 := fun lf st => fkAf p n (hO p (List.mem_of_getElem? hp)).1 (hO p (List.mem_of_getElem? hp)).2 (0 : Int) 1 [[D.int .i64 0]] k h0 rfl 0 rfl lf st
  have t1 := tC_full (forkT p.out [(0 : Int)])
  have t2 : ([[D.int .i64 0]] : List (List D)).take 1 = iC [0] := rfl
  generalize (forkT p.out [(0 : Int)]) = q at *
  generalize hpc : ps.map PlaceT.cells = pl at *
  obtain ⟨kd, nm, nv, ar, ou⟩ := p
  dsimp only at *
  subst hk4
  rw [icall_body rfl Try.func21]
  obtain ⟨lp, hlp⟩ : ∃ lp, lp = lpOf Try.prog cfg (icall Try.prog cfg k) Try.f21.ntmps 21 k (([] : Hp).map (·.1)) := ⟨_, rfl⟩
  rw [← hlp]
  rw [← (show lp = lpOf Try.prog cfg (icall Try.prog cfg k) Try.f21.ntmps 21 k (([] : Hp).map (·.1)) from hlp)] at h6 h18
  conv => lhs; whnf
  refine nextK_of (aop_ix rfl rfl rfl rfl (ixL_at' (n := 0) rfl htg rfl)) ?_
  conv => lhs; whnf
  refine nextK_of (aop_ix rfl rfl rfl rfl (ixL_at' (n := a) rfl hpg rfl)) ?_
  conv => lhs; whnf
  refine nextK_of (loop_at hlp (h6 k _ (by omega) rfl)) ?_
  conv => lhs; whnf
  refine nextK_of (loop_at hlp (h18 k _ (by omega) rfl)) ?_
  conv => lhs; whnf
  refine Eq.trans (b := some (Res.ret (AV.agg [AV.d (D.list (List.take (List.length q) (tC q))), AV.d (D.list [[D.int IntKind.i64 (0 : Int)]])]), [])) (by kernel_rfl) ?_
  (rw [t1]; rfl)
theorem mv4B (id : List UInt8) (ps : List PlaceT) (n : Nat) (hps : ps.length = n) (hn : n ≤ 4096) (hn0 : 0 < n) (hO : ∀ p ∈ ps, outsOk p.out n ∧ p.out.length ≤ 16) (toks : List TokT) (htl : toks.length ≤ 5000) (fl : Int) (a : Nat) (p : PlaceT) (hp : ps[a]? = some p) (came : List Int) (hc0 : came ≠ []) (hcl : came.length ≤ 1000) (w : Nat) (x : TokT) (r : List TokT) (ht : toks[w]? = some ((a : Int), [])) (hr : restS w 0 toks = (x :: r)) (hk4 : p.kind = 4) (h0 : 0 < p.out.length) (k : Nat) (hk : 6000 ≤ k) :
    icall Try.prog cfg (k + 1) 21 [.agg [.d (.str id), .d (.list (ps.map PlaceT.cells))], .agg [.d (.list (tC toks)), .d (.list (iC came))], .d (.int .i64 ((w : Nat) : Int)), .d (.int .i64 fl)] [] = some (.ret (gameV ((x :: r) ++ forkT p.out [(came.length : Int)]) (came ++ [0])), []) := by
  have hpg := place_get hp
  have htg : (tC toks)[w]? = some [.int .i64 (a : Int), .list (iC [])] := tC_get ht
  have h6 := fun lf st => mvNil id (ps.map PlaceT.cells) toks came w fl a [] p htl k rfl toks.length 0 0 lf st (by omega) (by omega) rfl
  rw [List.drop_zero, hr] at h6
  simp only [mvY] at h6
  have hol := (hO p (List.mem_of_getElem? hp)).2
  have hply : ((((iC came).take came.length).length : Nat) : Int) = (came.length : Int) := by rw [iC_full, iC_len]
  rw [← hply]
  have h18 := fun lf st => fkB p n (hO p (List.mem_of_getElem? hp)).1 (hO p (List.mem_of_getElem? hp)).2 ((((iC came).take came.length).length : Nat) : Int) (came.length + [[D.int .i64 0]].length) ((iC came).take came.length ++ [[D.int .i64 0]]) k rfl p.out.length 0 0 (x :: r) (x :: r).length (tC (x :: r)) lf st (by omega) (by omega) rfl (by have := rest_le w 0 toks; rw [hr] at this; omega) rfl rfl
  rw [List.drop_zero] at h18
  have t1 := tC_full ((x :: r) ++ forkT p.out [((((iC came).take came.length).length : Nat) : Int)])
  have t2 : ((iC came).take came.length ++ [[D.int .i64 0]]).take (came.length + [[D.int .i64 0]].length) = iC (came ++ [0]) := iC_app1 came 0
  generalize ((x :: r) ++ forkT p.out [((((iC came).take came.length).length : Nat) : Int)]) = q at *
  generalize hpc : ps.map PlaceT.cells = pl at *
  obtain ⟨kd, nm, nv, ar, ou⟩ := p
  dsimp only at *
  subst hk4
  rw [icall_body rfl Try.func21]
  obtain ⟨lp, hlp⟩ : ∃ lp, lp = lpOf Try.prog cfg (icall Try.prog cfg k) Try.f21.ntmps 21 k (([] : Hp).map (·.1)) := ⟨_, rfl⟩
  rw [← hlp]
  rw [← (show lp = lpOf Try.prog cfg (icall Try.prog cfg k) Try.f21.ntmps 21 k (([] : Hp).map (·.1)) from hlp)] at h6 h18
  conv => lhs; whnf
  refine nextK_of (aop_ix rfl rfl rfl rfl (ixL_at' (n := w) rfl htg rfl)) ?_
  conv => lhs; whnf
  refine nextK_of (aop_ix rfl rfl rfl rfl (ixL_at' (n := a) rfl hpg rfl)) ?_
  conv => lhs; whnf
  refine nextK_of (aop_beginF (fs := came) rfl rfl rfl rfl rfl rfl rfl rfl rfl rfl rfl rfl rfl hc0 (by omega)) ?_
  conv => lhs; whnf
  refine nextK_of (loop_at hlp (h6 k _ (by omega) rfl)) ?_
  conv => lhs; whnf
  refine nextK_of (aop_app rfl rfl rfl rfl rfl rfl rfl rfl rfl rfl rfl rfl (lenG (by omega) (Nat.le_of_ble_eq_true rfl))) ?_
  conv => lhs; whnf
  refine nextK_of (loop_at hlp (h18 k _ (by omega) rfl)) ?_
  conv => lhs; whnf
  refine Eq.trans (b := some (Res.ret (AV.agg [AV.d (D.list (List.take (List.length q) (tC q))), AV.d (D.list (List.take (List.length came + List.length [[D.int IntKind.i64 (0 : Int)]]) (List.append (List.take (List.length came) (iC came)) [[D.int IntKind.i64 (0 : Int)]])))]), [])) (by kernel_rfl) ?_
  exact congr2 t1 t2
theorem mv4C (id : List UInt8) (ps : List PlaceT) (n : Nat) (hps : ps.length = n) (hn : n ≤ 4096) (hn0 : 0 < n) (hO : ∀ p ∈ ps, outsOk p.out n ∧ p.out.length ≤ 16) (toks : List TokT) (htl : toks.length ≤ 5000) (fl : Int) (a : Nat) (p : PlaceT) (hp : ps[a]? = some p) (came : List Int) (hc0 : came ≠ []) (hcl : came.length ≤ 1000) (w : Nat) (ht : toks[w]? = some ((a : Int), [])) (hr : restS w 0 toks = []) (hk4 : p.kind = 4) (h0 : 0 < p.out.length) (k : Nat) (hk : 6000 ≤ k) :
    icall Try.prog cfg (k + 1) 21 [.agg [.d (.str id), .d (.list (ps.map PlaceT.cells))], .agg [.d (.list (tC toks)), .d (.list (iC came))], .d (.int .i64 ((w : Nat) : Int)), .d (.int .i64 fl)] [] = some (.ret (gameV (forkT p.out [(came.length : Int)]) (came ++ [0])), []) := by
  have hpg := place_get hp
  have htg : (tC toks)[w]? = some [.int .i64 (a : Int), .list (iC [])] := tC_get ht
  have h6 := fun lf st => mvNil id (ps.map PlaceT.cells) toks came w fl a [] p htl k rfl toks.length 0 0 lf st (by omega) (by omega) rfl
  rw [List.drop_zero, hr] at h6
  simp only [mvY] at h6
  have hol := (hO p (List.mem_of_getElem? hp)).2
  have hply : ((((iC came).take came.length).length : Nat) : Int) = (came.length : Int) := by rw [iC_full, iC_len]
  rw [← hply]
  have h18 := fun lf st => fkCf p n (hO p (List.mem_of_getElem? hp)).1 (hO p (List.mem_of_getElem? hp)).2 ((((iC came).take came.length).length : Nat) : Int) (came.length + [[D.int .i64 0]].length) ((iC came).take came.length ++ [[D.int .i64 0]]) k h0 rfl 0 rfl lf st
  have t1 := tC_full (forkT p.out [((((iC came).take came.length).length : Nat) : Int)])
  have t2 : ((iC came).take came.length ++ [[D.int .i64 0]]).take (came.length + [[D.int .i64 0]].length) = iC (came ++ [0]) := iC_app1 came 0
  generalize (forkT p.out [((((iC came).take came.length).length : Nat) : Int)]) = q at *
  generalize hpc : ps.map PlaceT.cells = pl at *
  obtain ⟨kd, nm, nv, ar, ou⟩ := p
  dsimp only at *
  subst hk4
  rw [icall_body rfl Try.func21]
  obtain ⟨lp, hlp⟩ : ∃ lp, lp = lpOf Try.prog cfg (icall Try.prog cfg k) Try.f21.ntmps 21 k (([] : Hp).map (·.1)) := ⟨_, rfl⟩
  rw [← hlp]
  rw [← (show lp = lpOf Try.prog cfg (icall Try.prog cfg k) Try.f21.ntmps 21 k (([] : Hp).map (·.1)) from hlp)] at h6 h18
  conv => lhs; whnf
  refine nextK_of (aop_ix rfl rfl rfl rfl (ixL_at' (n := w) rfl htg rfl)) ?_
  conv => lhs; whnf
  refine nextK_of (aop_ix rfl rfl rfl rfl (ixL_at' (n := a) rfl hpg rfl)) ?_
  conv => lhs; whnf
  refine nextK_of (aop_beginF (fs := came) rfl rfl rfl rfl rfl rfl rfl rfl rfl rfl rfl rfl rfl hc0 (by omega)) ?_
  conv => lhs; whnf
  refine nextK_of (loop_at hlp (h6 k _ (by omega) rfl)) ?_
  conv => lhs; whnf
  refine nextK_of (aop_app rfl rfl rfl rfl rfl rfl rfl rfl rfl rfl rfl rfl (lenG (by omega) (Nat.le_of_ble_eq_true rfl))) ?_
  conv => lhs; whnf
  refine nextK_of (loop_at hlp (h18 k _ (by omega) rfl)) ?_
  conv => lhs; whnf
  refine Eq.trans (b := some (Res.ret (AV.agg [AV.d (D.list (List.take (List.length q) (tC q))), AV.d (D.list (List.take (List.length came + List.length [[D.int IntKind.i64 (0 : Int)]]) (List.append (List.take (List.length came) (iC came)) [[D.int IntKind.i64 (0 : Int)]])))]), [])) (by kernel_rfl) ?_
  exact congr2 t1 t2
theorem mv4D (id : List UInt8) (ps : List PlaceT) (n : Nat) (hps : ps.length = n) (hn : n ≤ 4096) (hn0 : 0 < n) (hO : ∀ p ∈ ps, outsOk p.out n ∧ p.out.length ≤ 16) (toks : List TokT) (htl : toks.length ≤ 5000) (fl : Int) (a : Nat) (p : PlaceT) (hp : ps[a]? = some p) (came : List Int) (hc0 : came ≠ []) (hcl : came.length ≤ 1000) (w : Nat) (x : TokT) (r : List TokT) (pys : List Int) (hp0 : pys ≠ []) (hpl : pys.length ≤ 1000) (ht : toks[w]? = some ((a : Int), pys)) (hr : restS w 0 toks = (x :: r)) (hk4 : p.kind = 4) (h0 : 0 < p.out.length) (k : Nat) (hk : 6000 ≤ k) :
    icall Try.prog cfg (k + 1) 21 [.agg [.d (.str id), .d (.list (ps.map PlaceT.cells))], .agg [.d (.list (tC toks)), .d (.list (iC came))], .d (.int .i64 ((w : Nat) : Int)), .d (.int .i64 fl)] [] = some (.ret (gameV ((x :: r) ++ forkT p.out (pys ++ [(came.length : Int)])) (came ++ [0])), []) := by
  have hpg := place_get hp
  have htg : (tC toks)[w]? = some [.int .i64 (a : Int), .list (iC pys)] := tC_get ht
  have h6 := fun lf st => mvNil id (ps.map PlaceT.cells) toks came w fl a pys p htl k rfl toks.length 0 0 lf st (by omega) (by omega) rfl
  rw [List.drop_zero, hr] at h6
  simp only [mvY] at h6
  have hol := (hO p (List.mem_of_getElem? hp)).2
  have hply : ((((iC came).take came.length).length : Nat) : Int) = (came.length : Int) := by rw [iC_full, iC_len]
  rw [← hply]
  have h18 := fun lf st => fkD p n (hO p (List.mem_of_getElem? hp)).1 (hO p (List.mem_of_getElem? hp)).2 ((((iC came).take came.length).length : Nat) : Int) pys hp0 hpl (came.length + [[D.int .i64 0]].length) ((iC came).take came.length ++ [[D.int .i64 0]]) k rfl p.out.length 0 0 (x :: r) (x :: r).length (tC (x :: r)) lf st (by omega) (by omega) rfl (by have := rest_le w 0 toks; rw [hr] at this; omega) rfl rfl
  rw [List.drop_zero] at h18
  have t1 := tC_full ((x :: r) ++ forkT p.out (pys ++ [((((iC came).take came.length).length : Nat) : Int)]))
  have t2 : ((iC came).take came.length ++ [[D.int .i64 0]]).take (came.length + [[D.int .i64 0]].length) = iC (came ++ [0]) := iC_app1 came 0
  generalize ((x :: r) ++ forkT p.out (pys ++ [((((iC came).take came.length).length : Nat) : Int)])) = q at *
  generalize hpc : ps.map PlaceT.cells = pl at *
  obtain ⟨kd, nm, nv, ar, ou⟩ := p
  dsimp only at *
  subst hk4
  rw [icall_body rfl Try.func21]
  obtain ⟨lp, hlp⟩ : ∃ lp, lp = lpOf Try.prog cfg (icall Try.prog cfg k) Try.f21.ntmps 21 k (([] : Hp).map (·.1)) := ⟨_, rfl⟩
  rw [← hlp]
  rw [← (show lp = lpOf Try.prog cfg (icall Try.prog cfg k) Try.f21.ntmps 21 k (([] : Hp).map (·.1)) from hlp)] at h6 h18
  conv => lhs; whnf
  refine nextK_of (aop_ix rfl rfl rfl rfl (ixL_at' (n := w) rfl htg rfl)) ?_
  conv => lhs; whnf
  refine nextK_of (aop_ix rfl rfl rfl rfl (ixL_at' (n := a) rfl hpg rfl)) ?_
  conv => lhs; whnf
  refine nextK_of (aop_beginF (fs := came) rfl rfl rfl rfl rfl rfl rfl rfl rfl rfl rfl rfl rfl hc0 (by omega)) ?_
  conv => lhs; whnf
  refine nextK_of (loop_at hlp (h6 k _ (by omega) rfl)) ?_
  conv => lhs; whnf
  refine nextK_of (aop_beginF (fs := pys) rfl rfl rfl rfl rfl rfl rfl rfl rfl rfl rfl rfl rfl hp0 (by omega)) ?_
  conv => lhs; whnf
  refine nextK_of (aop_app rfl rfl rfl rfl rfl rfl rfl rfl rfl rfl rfl rfl (lenG (by omega) (Nat.le_of_ble_eq_true rfl))) ?_
  conv => lhs; whnf
  refine nextK_of (loop_at hlp (h18 k _ (by omega) rfl)) ?_
  conv => lhs; whnf
  refine Eq.trans (b := some (Res.ret (AV.agg [AV.d (D.list (List.take (List.length q) (tC q))), AV.d (D.list (List.take (List.length came + List.length [[D.int IntKind.i64 (0 : Int)]]) (List.append (List.take (List.length came) (iC came)) [[D.int IntKind.i64 (0 : Int)]])))]), [])) (by kernel_rfl) ?_
  exact congr2 t1 t2
theorem mv4E (id : List UInt8) (ps : List PlaceT) (n : Nat) (hps : ps.length = n) (hn : n ≤ 4096) (hn0 : 0 < n) (hO : ∀ p ∈ ps, outsOk p.out n ∧ p.out.length ≤ 16) (toks : List TokT) (htl : toks.length ≤ 5000) (fl : Int) (a : Nat) (p : PlaceT) (hp : ps[a]? = some p) (came : List Int) (hc0 : came ≠ []) (hcl : came.length ≤ 1000) (w : Nat) (pys : List Int) (hp0 : pys ≠ []) (hpl : pys.length ≤ 1000) (ht : toks[w]? = some ((a : Int), pys)) (hr : restS w 0 toks = []) (hk4 : p.kind = 4) (h0 : 0 < p.out.length) (k : Nat) (hk : 6000 ≤ k) :
    icall Try.prog cfg (k + 1) 21 [.agg [.d (.str id), .d (.list (ps.map PlaceT.cells))], .agg [.d (.list (tC toks)), .d (.list (iC came))], .d (.int .i64 ((w : Nat) : Int)), .d (.int .i64 fl)] [] = some (.ret (gameV (forkT p.out (pys ++ [(came.length : Int)])) (came ++ [0])), []) := by
  have hpg := place_get hp
  have htg : (tC toks)[w]? = some [.int .i64 (a : Int), .list (iC pys)] := tC_get ht
  have h6 := fun lf st => mvNil id (ps.map PlaceT.cells) toks came w fl a pys p htl k rfl toks.length 0 0 lf st (by omega) (by omega) rfl
  rw [List.drop_zero, hr] at h6
  simp only [mvY] at h6
  have hol := (hO p (List.mem_of_getElem? hp)).2
  have hply : ((((iC came).take came.length).length : Nat) : Int) = (came.length : Int) := by rw [iC_full, iC_len]
  rw [← hply]
  have h18 := fun lf st => fkEf p n (hO p (List.mem_of_getElem? hp)).1 (hO p (List.mem_of_getElem? hp)).2 ((((iC came).take came.length).length : Nat) : Int) pys hp0 hpl (came.length + [[D.int .i64 0]].length) ((iC came).take came.length ++ [[D.int .i64 0]]) k h0 rfl 0 rfl lf st
  have t1 := tC_full (forkT p.out (pys ++ [((((iC came).take came.length).length : Nat) : Int)]))
  have t2 : ((iC came).take came.length ++ [[D.int .i64 0]]).take (came.length + [[D.int .i64 0]].length) = iC (came ++ [0]) := iC_app1 came 0
  generalize (forkT p.out (pys ++ [((((iC came).take came.length).length : Nat) : Int)])) = q at *
  generalize hpc : ps.map PlaceT.cells = pl at *
  obtain ⟨kd, nm, nv, ar, ou⟩ := p
  dsimp only at *
  subst hk4
  rw [icall_body rfl Try.func21]
  obtain ⟨lp, hlp⟩ : ∃ lp, lp = lpOf Try.prog cfg (icall Try.prog cfg k) Try.f21.ntmps 21 k (([] : Hp).map (·.1)) := ⟨_, rfl⟩
  rw [← hlp]
  rw [← (show lp = lpOf Try.prog cfg (icall Try.prog cfg k) Try.f21.ntmps 21 k (([] : Hp).map (·.1)) from hlp)] at h6 h18
  conv => lhs; whnf
  refine nextK_of (aop_ix rfl rfl rfl rfl (ixL_at' (n := w) rfl htg rfl)) ?_
  conv => lhs; whnf
  refine nextK_of (aop_ix rfl rfl rfl rfl (ixL_at' (n := a) rfl hpg rfl)) ?_
  conv => lhs; whnf
  refine nextK_of (aop_beginF (fs := came) rfl rfl rfl rfl rfl rfl rfl rfl rfl rfl rfl rfl rfl hc0 (by omega)) ?_
  conv => lhs; whnf
  refine nextK_of (loop_at hlp (h6 k _ (by omega) rfl)) ?_
  conv => lhs; whnf
  refine nextK_of (aop_beginF (fs := pys) rfl rfl rfl rfl rfl rfl rfl rfl rfl rfl rfl rfl rfl hp0 (by omega)) ?_
  conv => lhs; whnf
  refine nextK_of (aop_app rfl rfl rfl rfl rfl rfl rfl rfl rfl rfl rfl rfl (lenG (by omega) (Nat.le_of_ble_eq_true rfl))) ?_
  conv => lhs; whnf
  refine nextK_of (loop_at hlp (h18 k _ (by omega) rfl)) ?_
  conv => lhs; whnf
  refine Eq.trans (b := some (Res.ret (AV.agg [AV.d (D.list (List.take (List.length q) (tC q))), AV.d (D.list (List.take (List.length came + List.length [[D.int IntKind.i64 (0 : Int)]]) (List.append (List.take (List.length came) (iC came)) [[D.int IntKind.i64 (0 : Int)]])))]), [])) (by kernel_rfl) ?_
  exact congr2 t1 t2
end Go.Rx12
