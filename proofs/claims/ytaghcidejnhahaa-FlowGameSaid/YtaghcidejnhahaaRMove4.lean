/- A part of the proof of the law: what functions of the program come to, walked by Rx, or plain facts on it. -/
import Derived.Test.YtaghcidejnhahaaRMove3
open Go Go.Rx Go.Proofs Go.Rx12 Go.RxTree
set_option maxRecDepth 1000000
set_option maxHeartbeats 4000000
set_option linter.unusedVariables false
set_option linter.unusedSimpArgs false
namespace Go.Rx12
theorem mvoA (id : List UInt8) (ps : List PlaceT) (n : Nat) (hps : ps.length = n) (hn : n ≤ 4096) (hn0 : 0 < n) (hO : ∀ p ∈ ps, outsOk p.out n ∧ p.out.length ≤ 16) (toks : List TokT) (htl : toks.length ≤ 5000) (fl : Int) (a : Nat) (p : PlaceT) (hp : ps[a]? = some p) (hto : toks = [((a : Int), [])]) (hk8 : p.kind ≠ 8) (hk4 : p.kind ≠ 4) (hk5 : p.kind ≠ 5) (o : FlowT) (hl0 : 0 < p.out.length) (hfo : p.out[fl.toNat % p.out.length]? = some o) (hf0 : 0 ≤ fl) (k : Nat) (hk : 6000 ≤ k) :
    icall Try.prog cfg (k + 1) 21 [.agg [.d (.str id), .d (.list (ps.map PlaceT.cells))], .agg [.d (.list (tC toks)), .d (.list (iC []))], .d (.int .i64 ((0 : Nat) : Int)), .d (.int .i64 fl)] [] = some (.ret (gameV ([(o.to, [])]) []), []) := by
  have hpg := place_get hp
  have htg : (tC toks)[0]? = some [.int .i64 (a : Int), .list (iC [])] := by rw [hto]; rfl
  have h6 := fun lf st => mvOne id (ps.map PlaceT.cells) toks fl a p hto k rfl lf st
  have hrem : fl.tmod ((p.out.map FlowT.cells).length : Int) = ((fl.toNat % p.out.length : Nat) : Int) := by rw [List.length_map, Int.tmod_eq_emod_of_nonneg hf0, Int.natCast_emod, Int.toNat_of_nonneg hf0]
  have hlne : ((p.out.map FlowT.cells).length : Int) ≠ 0 := by rw [List.length_map]; omega
  have hfd := flow_get hfo
  have t1 : [[D.int .i64 o.to, D.list []]] = tC [(o.to, [])] := by rw [show [[D.int .i64 o.to, D.list []]] = [[D.int .i64 o.to, D.list (iC [])]] from rfl]; rfl
  have tc := iC_full ([] : List Int)
  generalize hpc : ps.map PlaceT.cells = pl at *
  obtain ⟨kd, nm, nv, ar, ou⟩ := p
  dsimp only at *
  rw [icall_body rfl Try.func21]
  obtain ⟨lp, hlp⟩ : ∃ lp, lp = lpOf Try.prog cfg (icall Try.prog cfg k) Try.f21.ntmps 21 k (([] : Hp).map (·.1)) := ⟨_, rfl⟩
  rw [← hlp]
  rw [← (show lp = lpOf Try.prog cfg (icall Try.prog cfg k) Try.f21.ntmps 21 k (([] : Hp).map (·.1)) from hlp)] at h6
  conv => lhs; whnf
  refine nextK_of (aop_ix rfl rfl rfl rfl (ixL_at' (n := 0) rfl htg rfl)) ?_
  conv => lhs; whnf
  refine nextK_of (aop_ix rfl rfl rfl rfl (ixL_at' (n := a) rfl hpg rfl)) ?_
  conv => lhs; whnf
  refine nextK_of (loop_at hlp (h6 k _ (by omega) rfl)) ?_
  conv => lhs; whnf
  refine iteK_beq_f hk8 ?_
  conv => lhs; whnf
  refine iteK_beq_f hk4 ?_
  conv => lhs; whnf
  refine iteK_beq_f hk5 ?_
  conv => lhs; whnf
  refine iteO_t (by kernel_rfl) ?_
  conv => lhs; whnf
  refine nextK_of (aop_rem rfl rfl hlne) ?_
  conv => lhs; whnf
  refine nextK_of (aop_ix rfl rfl rfl rfl (ixL_at' hrem hfd rfl)) ?_
  conv => lhs; whnf
  refine iteO_t (by kernel_rfl) ?_
  conv => lhs; whnf
  refine Eq.trans (b := some (Res.ret (AV.agg [AV.d (D.list [[D.int IntKind.i64 o.to, D.list []]]), AV.d (D.list [])]), [])) (by kernel_rfl) ?_
  exact congr2 t1 tc
theorem mvoB (id : List UInt8) (ps : List PlaceT) (n : Nat) (hps : ps.length = n) (hn : n ≤ 4096) (hn0 : 0 < n) (hO : ∀ p ∈ ps, outsOk p.out n ∧ p.out.length ≤ 16) (toks : List TokT) (htl : toks.length ≤ 5000) (fl : Int) (a : Nat) (p : PlaceT) (hp : ps[a]? = some p) (came : List Int) (hc0 : came ≠ []) (hcl : came.length ≤ 1000) (w : Nat) (x : TokT) (r : List TokT) (ht : toks[w]? = some ((a : Int), [])) (hr : restS w 0 toks = (x :: r)) (hk8 : p.kind ≠ 8) (hk4 : p.kind ≠ 4) (hk5 : p.kind ≠ 5) (o : FlowT) (hl0 : 0 < p.out.length) (hfo : p.out[fl.toNat % p.out.length]? = some o) (hf0 : 0 ≤ fl) (k : Nat) (hk : 6000 ≤ k) :
    icall Try.prog cfg (k + 1) 21 [.agg [.d (.str id), .d (.list (ps.map PlaceT.cells))], .agg [.d (.list (tC toks)), .d (.list (iC came))], .d (.int .i64 ((w : Nat) : Int)), .d (.int .i64 fl)] [] = some (.ret (gameV ((x :: r) ++ [(o.to, [])]) came), []) := by
  have hpg := place_get hp
  have htg : (tC toks)[w]? = some [.int .i64 (a : Int), .list (iC [])] := tC_get ht
  have h6 := fun lf st => mvNil id (ps.map PlaceT.cells) toks came w fl a [] p htl k rfl toks.length 0 0 lf st (by omega) (by omega) rfl
  rw [List.drop_zero, hr] at h6
  simp only [mvY] at h6
  have hrem : fl.tmod ((p.out.map FlowT.cells).length : Int) = ((fl.toNat % p.out.length : Nat) : Int) := by rw [List.length_map, Int.tmod_eq_emod_of_nonneg hf0, Int.natCast_emod, Int.toNat_of_nonneg hf0]
  have hlne : ((p.out.map FlowT.cells).length : Int) ≠ 0 := by rw [List.length_map]; omega
  have hfd := flow_get hfo
  have t1 : ((tC (x :: r)).take (x :: r).length ++ [[D.int .i64 o.to, D.list []]]).take ((x :: r).length + [[D.int .i64 o.to, D.list []]].length) = tC ((x :: r) ++ [(o.to, [])]) := by rw [show [[D.int .i64 o.to, D.list []]] = [[D.int .i64 o.to, D.list (iC [])]] from rfl, tC_app]; exact List.take_of_length_le (by rw [tC_len, List.length_append]; exact Nat.le_refl _)
  have tc := iC_full came
  generalize x :: r = tk at *
  generalize hpc : ps.map PlaceT.cells = pl at *
  obtain ⟨kd, nm, nv, ar, ou⟩ := p
  dsimp only at *
  rw [icall_body rfl Try.func21]
  obtain ⟨lp, hlp⟩ : ∃ lp, lp = lpOf Try.prog cfg (icall Try.prog cfg k) Try.f21.ntmps 21 k (([] : Hp).map (·.1)) := ⟨_, rfl⟩
  rw [← hlp]
  rw [← (show lp = lpOf Try.prog cfg (icall Try.prog cfg k) Try.f21.ntmps 21 k (([] : Hp).map (·.1)) from hlp)] at h6
  conv => lhs; whnf
  refine nextK_of (aop_ix rfl rfl rfl rfl (ixL_at' (n := w) rfl htg rfl)) ?_
  conv => lhs; whnf
  refine nextK_of (aop_ix rfl rfl rfl rfl (ixL_at' (n := a) rfl hpg rfl)) ?_
  conv => lhs; whnf
  refine nextK_of (aop_beginF (fs := came) rfl rfl rfl rfl rfl rfl rfl rfl rfl rfl rfl rfl rfl hc0 (by omega)) ?_
  conv => lhs; whnf
  refine nextK_of (loop_at hlp (h6 k _ (by omega) rfl)) ?_
  conv => lhs; whnf
  refine iteK_beq_f hk8 ?_
  conv => lhs; whnf
  refine iteK_beq_f hk4 ?_
  conv => lhs; whnf
  refine iteK_beq_f hk5 ?_
  conv => lhs; whnf
  refine iteO_t (by kernel_rfl) ?_
  conv => lhs; whnf
  refine nextK_of (aop_rem rfl rfl hlne) ?_
  conv => lhs; whnf
  refine nextK_of (aop_ix rfl rfl rfl rfl (ixL_at' hrem hfd rfl)) ?_
  conv => lhs; whnf
  refine nextK_of (aop_app rfl rfl rfl rfl rfl rfl rfl rfl rfl rfl rfl rfl (lenG (by have := rest_le w 0 toks; rw [hr] at this; omega) (Nat.le_of_ble_eq_true rfl))) ?_
  conv => lhs; whnf
  refine iteO_t (by kernel_rfl) ?_
  conv => lhs; whnf
  refine Eq.trans (b := some (Res.ret (AV.agg [AV.d (D.list (List.take (List.length tk + List.length [[D.int IntKind.i64 o.to, D.list []]]) (List.append (List.take (List.length tk) (tC tk)) [[D.int IntKind.i64 o.to, D.list []]]))), AV.d (D.list (List.take (List.length came) (iC came)))]), [])) (by kernel_rfl) ?_
  exact congr2 t1 tc
theorem mvoC (id : List UInt8) (ps : List PlaceT) (n : Nat) (hps : ps.length = n) (hn : n ≤ 4096) (hn0 : 0 < n) (hO : ∀ p ∈ ps, outsOk p.out n ∧ p.out.length ≤ 16) (toks : List TokT) (htl : toks.length ≤ 5000) (fl : Int) (a : Nat) (p : PlaceT) (hp : ps[a]? = some p) (came : List Int) (hc0 : came ≠ []) (hcl : came.length ≤ 1000) (w : Nat) (ht : toks[w]? = some ((a : Int), [])) (hr : restS w 0 toks = []) (hk8 : p.kind ≠ 8) (hk4 : p.kind ≠ 4) (hk5 : p.kind ≠ 5) (o : FlowT) (hl0 : 0 < p.out.length) (hfo : p.out[fl.toNat % p.out.length]? = some o) (hf0 : 0 ≤ fl) (k : Nat) (hk : 6000 ≤ k) :
    icall Try.prog cfg (k + 1) 21 [.agg [.d (.str id), .d (.list (ps.map PlaceT.cells))], .agg [.d (.list (tC toks)), .d (.list (iC came))], .d (.int .i64 ((w : Nat) : Int)), .d (.int .i64 fl)] [] = some (.ret (gameV ([(o.to, [])]) came), []) := by
  have hpg := place_get hp
  have htg : (tC toks)[w]? = some [.int .i64 (a : Int), .list (iC [])] := tC_get ht
  have h6 := fun lf st => mvNil id (ps.map PlaceT.cells) toks came w fl a [] p htl k rfl toks.length 0 0 lf st (by omega) (by omega) rfl
  rw [List.drop_zero, hr] at h6
  simp only [mvY] at h6
  have hrem : fl.tmod ((p.out.map FlowT.cells).length : Int) = ((fl.toNat % p.out.length : Nat) : Int) := by rw [List.length_map, Int.tmod_eq_emod_of_nonneg hf0, Int.natCast_emod, Int.toNat_of_nonneg hf0]
  have hlne : ((p.out.map FlowT.cells).length : Int) ≠ 0 := by rw [List.length_map]; omega
  have hfd := flow_get hfo
  have t1 : [[D.int .i64 o.to, D.list []]] = tC [(o.to, [])] := by rw [show [[D.int .i64 o.to, D.list []]] = [[D.int .i64 o.to, D.list (iC [])]] from rfl]; rfl
  have tc := iC_full came
  generalize hpc : ps.map PlaceT.cells = pl at *
  obtain ⟨kd, nm, nv, ar, ou⟩ := p
  dsimp only at *
  rw [icall_body rfl Try.func21]
  obtain ⟨lp, hlp⟩ : ∃ lp, lp = lpOf Try.prog cfg (icall Try.prog cfg k) Try.f21.ntmps 21 k (([] : Hp).map (·.1)) := ⟨_, rfl⟩
  rw [← hlp]
  rw [← (show lp = lpOf Try.prog cfg (icall Try.prog cfg k) Try.f21.ntmps 21 k (([] : Hp).map (·.1)) from hlp)] at h6
  conv => lhs; whnf
  refine nextK_of (aop_ix rfl rfl rfl rfl (ixL_at' (n := w) rfl htg rfl)) ?_
  conv => lhs; whnf
  refine nextK_of (aop_ix rfl rfl rfl rfl (ixL_at' (n := a) rfl hpg rfl)) ?_
  conv => lhs; whnf
  refine nextK_of (aop_beginF (fs := came) rfl rfl rfl rfl rfl rfl rfl rfl rfl rfl rfl rfl rfl hc0 (by omega)) ?_
  conv => lhs; whnf
  refine nextK_of (loop_at hlp (h6 k _ (by omega) rfl)) ?_
  conv => lhs; whnf
  refine iteK_beq_f hk8 ?_
  conv => lhs; whnf
  refine iteK_beq_f hk4 ?_
  conv => lhs; whnf
  refine iteK_beq_f hk5 ?_
  conv => lhs; whnf
  refine iteO_t (by kernel_rfl) ?_
  conv => lhs; whnf
  refine nextK_of (aop_rem rfl rfl hlne) ?_
  conv => lhs; whnf
  refine nextK_of (aop_ix rfl rfl rfl rfl (ixL_at' hrem hfd rfl)) ?_
  conv => lhs; whnf
  refine iteO_t (by kernel_rfl) ?_
  conv => lhs; whnf
  refine Eq.trans (b := some (Res.ret (AV.agg [AV.d (D.list [[D.int IntKind.i64 o.to, D.list []]]), AV.d (D.list (List.take (List.length came) (iC came)))]), [])) (by kernel_rfl) ?_
  exact congr2 t1 tc
theorem mvoD (id : List UInt8) (ps : List PlaceT) (n : Nat) (hps : ps.length = n) (hn : n ≤ 4096) (hn0 : 0 < n) (hO : ∀ p ∈ ps, outsOk p.out n ∧ p.out.length ≤ 16) (toks : List TokT) (htl : toks.length ≤ 5000) (fl : Int) (a : Nat) (p : PlaceT) (hp : ps[a]? = some p) (came : List Int) (hc0 : came ≠ []) (hcl : came.length ≤ 1000) (w : Nat) (x : TokT) (r : List TokT) (pys : List Int) (hp0 : pys ≠ []) (hpl : pys.length ≤ 1000) (ht : toks[w]? = some ((a : Int), pys)) (hr : restS w 0 toks = (x :: r)) (hk8 : p.kind ≠ 8) (hk4 : p.kind ≠ 4) (hk5 : p.kind ≠ 5) (o : FlowT) (hl0 : 0 < p.out.length) (hfo : p.out[fl.toNat % p.out.length]? = some o) (hf0 : 0 ≤ fl) (k : Nat) (hk : 6000 ≤ k) :
    icall Try.prog cfg (k + 1) 21 [.agg [.d (.str id), .d (.list (ps.map PlaceT.cells))], .agg [.d (.list (tC toks)), .d (.list (iC came))], .d (.int .i64 ((w : Nat) : Int)), .d (.int .i64 fl)] [] = some (.ret (gameV ((x :: r) ++ [(o.to, pys)]) came), []) := by
  have hpg := place_get hp
  have htg : (tC toks)[w]? = some [.int .i64 (a : Int), .list (iC pys)] := tC_get ht
  have h6 := fun lf st => mvNil id (ps.map PlaceT.cells) toks came w fl a pys p htl k rfl toks.length 0 0 lf st (by omega) (by omega) rfl
  rw [List.drop_zero, hr] at h6
  simp only [mvY] at h6
  have hrem : fl.tmod ((p.out.map FlowT.cells).length : Int) = ((fl.toNat % p.out.length : Nat) : Int) := by rw [List.length_map, Int.tmod_eq_emod_of_nonneg hf0, Int.natCast_emod, Int.toNat_of_nonneg hf0]
  have hlne : ((p.out.map FlowT.cells).length : Int) ≠ 0 := by rw [List.length_map]; omega
  have hfd := flow_get hfo
  have t1 : ((tC (x :: r)).take (x :: r).length ++ [[D.int .i64 o.to, D.list ((iC pys).take pys.length)]]).take ((x :: r).length + [[D.int .i64 o.to, D.list ((iC pys).take pys.length)]].length) = tC ((x :: r) ++ [(o.to, pys)]) := by rw [iC_full, tC_app]; exact List.take_of_length_le (by rw [tC_len, List.length_append]; exact Nat.le_refl _)
  have tc := iC_full came
  generalize x :: r = tk at *
  generalize hpc : ps.map PlaceT.cells = pl at *
  obtain ⟨kd, nm, nv, ar, ou⟩ := p
  dsimp only at *
  rw [icall_body rfl Try.func21]
  obtain ⟨lp, hlp⟩ : ∃ lp, lp = lpOf Try.prog cfg (icall Try.prog cfg k) Try.f21.ntmps 21 k (([] : Hp).map (·.1)) := ⟨_, rfl⟩
  rw [← hlp]
  rw [← (show lp = lpOf Try.prog cfg (icall Try.prog cfg k) Try.f21.ntmps 21 k (([] : Hp).map (·.1)) from hlp)] at h6
  conv => lhs; whnf
  refine nextK_of (aop_ix rfl rfl rfl rfl (ixL_at' (n := w) rfl htg rfl)) ?_
  conv => lhs; whnf
  refine nextK_of (aop_ix rfl rfl rfl rfl (ixL_at' (n := a) rfl hpg rfl)) ?_
  conv => lhs; whnf
  refine nextK_of (aop_beginF (fs := came) rfl rfl rfl rfl rfl rfl rfl rfl rfl rfl rfl rfl rfl hc0 (by omega)) ?_
  conv => lhs; whnf
  refine nextK_of (loop_at hlp (h6 k _ (by omega) rfl)) ?_
  conv => lhs; whnf
  refine iteK_beq_f hk8 ?_
  conv => lhs; whnf
  refine nextK_of (aop_beginF (fs := pys) rfl rfl rfl rfl rfl rfl rfl rfl rfl rfl rfl rfl rfl hp0 (by omega)) ?_
  conv => lhs; whnf
  refine iteK_beq_f hk4 ?_
  conv => lhs; whnf
  refine iteK_beq_f hk5 ?_
  conv => lhs; whnf
  refine iteO_t (by kernel_rfl) ?_
  conv => lhs; whnf
  refine nextK_of (aop_rem rfl rfl hlne) ?_
  conv => lhs; whnf
  refine nextK_of (aop_ix rfl rfl rfl rfl (ixL_at' hrem hfd rfl)) ?_
  conv => lhs; whnf
  refine nextK_of (aop_app rfl rfl rfl rfl rfl rfl rfl rfl rfl rfl rfl rfl (lenG (by have := rest_le w 0 toks; rw [hr] at this; omega) (Nat.le_of_ble_eq_true rfl))) ?_
  conv => lhs; whnf
  refine iteO_t (by kernel_rfl) ?_
  conv => lhs; whnf
  refine Eq.trans (b := some (Res.ret (AV.agg [AV.d (D.list (List.take (List.length tk + List.length [[D.int IntKind.i64 o.to, D.list (List.take (List.length pys) (iC pys))]]) (List.append (List.take (List.length tk) (tC tk)) [[D.int IntKind.i64 o.to, D.list (List.take (List.length pys) (iC pys))]]))), AV.d (D.list (List.take (List.length came) (iC came)))]), [])) (by kernel_rfl) ?_
  exact congr2 t1 tc
theorem mvoE (id : List UInt8) (ps : List PlaceT) (n : Nat) (hps : ps.length = n) (hn : n ≤ 4096) (hn0 : 0 < n) (hO : ∀ p ∈ ps, outsOk p.out n ∧ p.out.length ≤ 16) (toks : List TokT) (htl : toks.length ≤ 5000) (fl : Int) (a : Nat) (p : PlaceT) (hp : ps[a]? = some p) (came : List Int) (hc0 : came ≠ []) (hcl : came.length ≤ 1000) (w : Nat) (pys : List Int) (hp0 : pys ≠ []) (hpl : pys.length ≤ 1000) (ht : toks[w]? = some ((a : Int), pys)) (hr : restS w 0 toks = []) (hk8 : p.kind ≠ 8) (hk4 : p.kind ≠ 4) (hk5 : p.kind ≠ 5) (o : FlowT) (hl0 : 0 < p.out.length) (hfo : p.out[fl.toNat % p.out.length]? = some o) (hf0 : 0 ≤ fl) (k : Nat) (hk : 6000 ≤ k) :
    icall Try.prog cfg (k + 1) 21 [.agg [.d (.str id), .d (.list (ps.map PlaceT.cells))], .agg [.d (.list (tC toks)), .d (.list (iC came))], .d (.int .i64 ((w : Nat) : Int)), .d (.int .i64 fl)] [] = some (.ret (gameV ([(o.to, pys)]) came), []) := by
  have hpg := place_get hp
  have htg : (tC toks)[w]? = some [.int .i64 (a : Int), .list (iC pys)] := tC_get ht
  have h6 := fun lf st => mvNil id (ps.map PlaceT.cells) toks came w fl a pys p htl k rfl toks.length 0 0 lf st (by omega) (by omega) rfl
  rw [List.drop_zero, hr] at h6
  simp only [mvY] at h6
  have hrem : fl.tmod ((p.out.map FlowT.cells).length : Int) = ((fl.toNat % p.out.length : Nat) : Int) := by rw [List.length_map, Int.tmod_eq_emod_of_nonneg hf0, Int.natCast_emod, Int.toNat_of_nonneg hf0]
  have hlne : ((p.out.map FlowT.cells).length : Int) ≠ 0 := by rw [List.length_map]; omega
  have hfd := flow_get hfo
  have t1 : [[D.int .i64 o.to, D.list ((iC pys).take pys.length)]] = tC [(o.to, pys)] := by rw [iC_full]; rfl
  have tc := iC_full came
  generalize hpc : ps.map PlaceT.cells = pl at *
  obtain ⟨kd, nm, nv, ar, ou⟩ := p
  dsimp only at *
  rw [icall_body rfl Try.func21]
  obtain ⟨lp, hlp⟩ : ∃ lp, lp = lpOf Try.prog cfg (icall Try.prog cfg k) Try.f21.ntmps 21 k (([] : Hp).map (·.1)) := ⟨_, rfl⟩
  rw [← hlp]
  rw [← (show lp = lpOf Try.prog cfg (icall Try.prog cfg k) Try.f21.ntmps 21 k (([] : Hp).map (·.1)) from hlp)] at h6
  conv => lhs; whnf
  refine nextK_of (aop_ix rfl rfl rfl rfl (ixL_at' (n := w) rfl htg rfl)) ?_
  conv => lhs; whnf
  refine nextK_of (aop_ix rfl rfl rfl rfl (ixL_at' (n := a) rfl hpg rfl)) ?_
  conv => lhs; whnf
  refine nextK_of (aop_beginF (fs := came) rfl rfl rfl rfl rfl rfl rfl rfl rfl rfl rfl rfl rfl hc0 (by omega)) ?_
  conv => lhs; whnf
  refine nextK_of (loop_at hlp (h6 k _ (by omega) rfl)) ?_
  conv => lhs; whnf
  refine iteK_beq_f hk8 ?_
  conv => lhs; whnf
  refine nextK_of (aop_beginF (fs := pys) rfl rfl rfl rfl rfl rfl rfl rfl rfl rfl rfl rfl rfl hp0 (by omega)) ?_
  conv => lhs; whnf
  refine iteK_beq_f hk4 ?_
  conv => lhs; whnf
  refine iteK_beq_f hk5 ?_
  conv => lhs; whnf
  refine iteO_t (by kernel_rfl) ?_
  conv => lhs; whnf
  refine nextK_of (aop_rem rfl rfl hlne) ?_
  conv => lhs; whnf
  refine nextK_of (aop_ix rfl rfl rfl rfl (ixL_at' hrem hfd rfl)) ?_
  conv => lhs; whnf
  refine iteO_t (by kernel_rfl) ?_
  conv => lhs; whnf
  refine Eq.trans (b := some (Res.ret (AV.agg [AV.d (D.list [[D.int IntKind.i64 o.to, D.list (List.take (List.length pys) (iC pys))]]), AV.d (D.list (List.take (List.length came) (iC came)))]), [])) (by kernel_rfl) ?_
  exact congr2 t1 tc
theorem mv5aD (id : List UInt8) (ps : List PlaceT) (n : Nat) (hps : ps.length = n) (hn : n ≤ 4096) (hn0 : 0 < n) (hO : ∀ p ∈ ps, outsOk p.out n ∧ p.out.length ≤ 16) (toks : List TokT) (htl : toks.length ≤ 5000) (fl : Int) (a : Nat) (p : PlaceT) (hp : ps[a]? = some p) (came : List Int) (hc0 : came ≠ []) (hcl : came.length ≤ 1000) (w : Nat) (x : TokT) (r : List TokT) (pys : List Int) (hp0 : pys ≠ []) (hpl : pys.length ≤ 1000) (ht : toks[w]? = some ((a : Int), pys)) (hr : restS w 0 toks = (x :: r)) (hk5 : p.kind = 5) (q g : Nat) (c : Int) (hq : getI pys (pys.length - 1) = (q : Int)) (hqc : came[q]? = some c) (hcb : 0 ≤ c ∧ c ≤ 1000) (g0 : (getR (rowsR ps).1.rows a).2 ≠ []) (hg : getI (getR (rowsR ps).1.rows a).2 ((getR (rowsR ps).1.rows a).2.length - 1) = (g : Int)) (pg : PlaceT) (hpgg : ps[g]? = some pg) (hcmp : c + 1 < (pg.out.length : Int)) (k : Nat) (hk : 110000 ≤ k) :
    icall Try.prog cfg (k + 1) 21 [.agg [.d (.str id), .d (.list (ps.map PlaceT.cells))], .agg [.d (.list (tC toks)), .d (.list (iC came))], .d (.int .i64 ((w : Nat) : Int)), .d (.int .i64 fl)] [] = some (.ret (gameV (x :: r) (came.set q (c + 1))), []) := by
  have hpg := place_get hp
  have htg : (tC toks)[w]? = some [.int .i64 (a : Int), .list (iC pys)] := tC_get ht
  have h6 := fun lf st => mvNil id (ps.map PlaceT.cells) toks came w fl a pys p htl k rfl toks.length 0 0 lf st (by omega) (by omega) rfl
  rw [List.drop_zero, hr] at h6
  simp only [mvY] at h6
  have han : a < n := by rw [← hps]; exact (List.getElem?_eq_some_iff.1 hp).1
  have h20 := forks20 id ps n hps hn hn0 hO a han k (by omega)
  have hfl1 : (getR (rowsR ps).1.rows a).2.length ≠ 0 := fun h => g0 (List.eq_nil_of_length_eq_zero h)
  have hfl2 : (getR (rowsR ps).1.rows a).2.length ≤ 16 := (((rowsR_ok (ps := ps) (by omega) (fun p hp => by rw [hps]; exact (hO p hp).1)).fks _ (List.mem_of_getElem? (getR_some (by rw [(rowsR_ok (ps := ps) (by omega) (fun p hp => by rw [hps]; exact (hO p hp).1)).len.1, hps]; exact han))))).1
  have hfg := getI_some (l := (getR (rowsR ps).1.rows a).2) (i := (getR (rowsR ps).1.rows a).2.length - 1) (by omega)
  rw [hg] at hfg
  generalize (getR (rowsR ps).1.rows a).2 = fks at *
  have hfD := iC_get hfg
  have hw2 : IntKind.i64.wrap (((iC fks).length : Int) - 1) = ((fks.length - 1 : Nat) : Int) := by rw [iC_len, wrap_i64 (by omega) (by omega)]; omega
  have hpgD := place_get hpgg
  have hl1 : pys.length ≠ 0 := fun h => hp0 (List.eq_nil_of_length_eq_zero h)
  have hpq := getI_some (l := pys) (i := pys.length - 1) (by omega)
  rw [hq] at hpq
  have hpD := iC_get hpq
  have hw1 : IntKind.i64.wrap ((((iC pys).take pys.length).length : Int) - 1) = ((pys.length - 1 : Nat) : Int) := by rw [iC_full, iC_len, wrap_i64 (by omega) (by omega)]; omega
  have hqlt : q < came.length := (List.getElem?_eq_some_iff.1 hqc).1
  have hcD := iC_get hqc
  have hw3 : IntKind.i64.wrap (c + 1) = c + 1 := wrap_i64 (by omega) (by omega)
  have hcS : ((iC came).set q [.int .i64 (IntKind.i64.wrap (c + 1))])[q]? = some [.int .i64 (IntKind.i64.wrap (c + 1))] := by rw [List.getElem?_set_self (by rw [iC_len]; exact hqlt)]
  have hcm' : IntKind.i64.wrap (c + 1) < ((pg.out.map FlowT.cells).length : Int) := by rw [hw3, List.length_map]; exact hcmp
  have tc : ((iC came).set q [D.int .i64 (IntKind.i64.wrap (c + 1))]).take came.length = iC (came.set q (c + 1)) := by rw [hw3, iC_set]; exact iC_fullN (by rw [List.length_set])
  have t2 := tC_full (x :: r)
  generalize hpc : ps.map PlaceT.cells = pl at *
  obtain ⟨kd, nm, nv, ar, ou⟩ := p
  dsimp only at *
  subst hk5
  rw [icall_body rfl Try.func21]
  obtain ⟨lp, hlp⟩ : ∃ lp, lp = lpOf Try.prog cfg (icall Try.prog cfg k) Try.f21.ntmps 21 k (([] : Hp).map (·.1)) := ⟨_, rfl⟩
  rw [← hlp]
  rw [← (show lp = lpOf Try.prog cfg (icall Try.prog cfg k) Try.f21.ntmps 21 k (([] : Hp).map (·.1)) from hlp)] at h6
  conv => lhs; whnf
  refine nextK_of (aop_ix rfl rfl rfl rfl (ixL_at' (n := w) rfl htg rfl)) ?_
  conv => lhs; whnf
  refine nextK_of (aop_ix rfl rfl rfl rfl (ixL_at' (n := a) rfl hpg rfl)) ?_
  conv => lhs; whnf
  refine nextK_of (aop_beginF (fs := came) rfl rfl rfl rfl rfl rfl rfl rfl rfl rfl rfl rfl rfl hc0 (by omega)) ?_
  conv => lhs; whnf
  refine nextK_of (loop_at hlp (h6 k _ (by omega) rfl)) ?_
  conv => lhs; whnf
  refine nextK_of (aop_beginF (fs := pys) rfl rfl rfl rfl rfl rfl rfl rfl rfl rfl rfl rfl rfl hp0 (by omega)) ?_
  conv => lhs; whnf
  refine nextK_of (aop_ixO (i := pys.length - 1) rfl rfl rfl rfl rfl hw1 (by omega)) ?_
  conv => lhs; whnf
  refine nextK_of (aop_ldE1 rfl rfl hpD rfl rfl rfl) ?_
  conv => lhs; whnf
  refine nextK_of (aop_cutO (b := pys.length - 1) rfl rfl rfl rfl rfl hw1 (by omega)) ?_
  conv => lhs; whnf
  refine nextK_of (aop_ixO (i := q) rfl rfl rfl rfl rfl rfl (by omega)) ?_
  conv => lhs; whnf
  refine nextK_of (aop_ldE1 rfl rfl hcD rfl rfl rfl) ?_
  conv => lhs; whnf
  refine nextK_of (aop_ixO (i := q) rfl rfl rfl rfl rfl rfl (by omega)) ?_
  conv => lhs; whnf
  refine nextK_of (aop_stE rfl rfl rfl rfl rfl hcD rfl) ?_
  conv => lhs; whnf
  refine nextK_of h20 ?_
  conv => lhs; whnf
  refine iteO_t (by kernel_rfl) ?_
  conv => lhs; whnf
  refine nextK_of (aop_ixO (i := q) rfl rfl rfl rfl rfl rfl (by omega)) ?_
  conv => lhs; whnf
  refine nextK_of (aop_ldE1 rfl rfl hcS rfl rfl rfl) ?_
  conv => lhs; whnf
  refine nextK_of (aop_ix rfl rfl rfl rfl (ixL_at' hw2 hfD rfl)) ?_
  conv => lhs; whnf
  refine nextK_of (aop_ix rfl rfl rfl rfl (ixL_at' (n := g) rfl hpgD rfl)) ?_
  conv => lhs; whnf
  refine iteO_t (by kernel_rfl) ?_
  conv => lhs; whnf
  refine iteK_dec_t hcm' ?_
  conv => lhs; whnf
  refine Eq.trans (b := some (Res.ret (AV.agg [AV.d (D.list ([D.int IntKind.i64 x.1, D.list (iC x.2)] :: List.take (List.length r) (List.map (fun t => [D.int IntKind.i64 t.fst, D.list (iC t.snd)]) r))), AV.d (D.list (List.take (List.length came) (List.set (iC came) q [D.int IntKind.i64 (IntKind.wrap IntKind.i64 (c + (1 : Int)))])))]), [])) (by kernel_rfl) ?_
  exact congr2 t2 tc
theorem mv5aE (id : List UInt8) (ps : List PlaceT) (n : Nat) (hps : ps.length = n) (hn : n ≤ 4096) (hn0 : 0 < n) (hO : ∀ p ∈ ps, outsOk p.out n ∧ p.out.length ≤ 16) (toks : List TokT) (htl : toks.length ≤ 5000) (fl : Int) (a : Nat) (p : PlaceT) (hp : ps[a]? = some p) (came : List Int) (hc0 : came ≠ []) (hcl : came.length ≤ 1000) (w : Nat) (pys : List Int) (hp0 : pys ≠ []) (hpl : pys.length ≤ 1000) (ht : toks[w]? = some ((a : Int), pys)) (hr : restS w 0 toks = []) (hk5 : p.kind = 5) (q g : Nat) (c : Int) (hq : getI pys (pys.length - 1) = (q : Int)) (hqc : came[q]? = some c) (hcb : 0 ≤ c ∧ c ≤ 1000) (g0 : (getR (rowsR ps).1.rows a).2 ≠ []) (hg : getI (getR (rowsR ps).1.rows a).2 ((getR (rowsR ps).1.rows a).2.length - 1) = (g : Int)) (pg : PlaceT) (hpgg : ps[g]? = some pg) (hcmp : c + 1 < (pg.out.length : Int)) (k : Nat) (hk : 110000 ≤ k) :
    icall Try.prog cfg (k + 1) 21 [.agg [.d (.str id), .d (.list (ps.map PlaceT.cells))], .agg [.d (.list (tC toks)), .d (.list (iC came))], .d (.int .i64 ((w : Nat) : Int)), .d (.int .i64 fl)] [] = some (.ret (gameV [] (came.set q (c + 1))), []) := by
  have hpg := place_get hp
  have htg : (tC toks)[w]? = some [.int .i64 (a : Int), .list (iC pys)] := tC_get ht
  have h6 := fun lf st => mvNil id (ps.map PlaceT.cells) toks came w fl a pys p htl k rfl toks.length 0 0 lf st (by omega) (by omega) rfl
  rw [List.drop_zero, hr] at h6
  simp only [mvY] at h6
  have han : a < n := by rw [← hps]; exact (List.getElem?_eq_some_iff.1 hp).1
  have h20 := forks20 id ps n hps hn hn0 hO a han k (by omega)
  have hfl1 : (getR (rowsR ps).1.rows a).2.length ≠ 0 := fun h => g0 (List.eq_nil_of_length_eq_zero h)
  have hfl2 : (getR (rowsR ps).1.rows a).2.length ≤ 16 := (((rowsR_ok (ps := ps) (by omega) (fun p hp => by rw [hps]; exact (hO p hp).1)).fks _ (List.mem_of_getElem? (getR_some (by rw [(rowsR_ok (ps := ps) (by omega) (fun p hp => by rw [hps]; exact (hO p hp).1)).len.1, hps]; exact han))))).1
  have hfg := getI_some (l := (getR (rowsR ps).1.rows a).2) (i := (getR (rowsR ps).1.rows a).2.length - 1) (by omega)
  rw [hg] at hfg
  generalize (getR (rowsR ps).1.rows a).2 = fks at *
  have hfD := iC_get hfg
  have hw2 : IntKind.i64.wrap (((iC fks).length : Int) - 1) = ((fks.length - 1 : Nat) : Int) := by rw [iC_len, wrap_i64 (by omega) (by omega)]; omega
  have hpgD := place_get hpgg
  have hl1 : pys.length ≠ 0 := fun h => hp0 (List.eq_nil_of_length_eq_zero h)
  have hpq := getI_some (l := pys) (i := pys.length - 1) (by omega)
  rw [hq] at hpq
  have hpD := iC_get hpq
  have hw1 : IntKind.i64.wrap ((((iC pys).take pys.length).length : Int) - 1) = ((pys.length - 1 : Nat) : Int) := by rw [iC_full, iC_len, wrap_i64 (by omega) (by omega)]; omega
  have hqlt : q < came.length := (List.getElem?_eq_some_iff.1 hqc).1
  have hcD := iC_get hqc
  have hw3 : IntKind.i64.wrap (c + 1) = c + 1 := wrap_i64 (by omega) (by omega)
  have hcS : ((iC came).set q [.int .i64 (IntKind.i64.wrap (c + 1))])[q]? = some [.int .i64 (IntKind.i64.wrap (c + 1))] := by rw [List.getElem?_set_self (by rw [iC_len]; exact hqlt)]
  have hcm' : IntKind.i64.wrap (c + 1) < ((pg.out.map FlowT.cells).length : Int) := by rw [hw3, List.length_map]; exact hcmp
  have tc : ((iC came).set q [D.int .i64 (IntKind.i64.wrap (c + 1))]).take came.length = iC (came.set q (c + 1)) := by rw [hw3, iC_set]; exact iC_fullN (by rw [List.length_set])
  generalize hpc : ps.map PlaceT.cells = pl at *
  obtain ⟨kd, nm, nv, ar, ou⟩ := p
  dsimp only at *
  subst hk5
  rw [icall_body rfl Try.func21]
  obtain ⟨lp, hlp⟩ : ∃ lp, lp = lpOf Try.prog cfg (icall Try.prog cfg k) Try.f21.ntmps 21 k (([] : Hp).map (·.1)) := ⟨_, rfl⟩
  rw [← hlp]
  rw [← (show lp = lpOf Try.prog cfg (icall Try.prog cfg k) Try.f21.ntmps 21 k (([] : Hp).map (·.1)) from hlp)] at h6
  conv => lhs; whnf
  refine nextK_of (aop_ix rfl rfl rfl rfl (ixL_at' (n := w) rfl htg rfl)) ?_
  conv => lhs; whnf
  refine nextK_of (aop_ix rfl rfl rfl rfl (ixL_at' (n := a) rfl hpg rfl)) ?_
  conv => lhs; whnf
  refine nextK_of (aop_beginF (fs := came) rfl rfl rfl rfl rfl rfl rfl rfl rfl rfl rfl rfl rfl hc0 (by omega)) ?_
  conv => lhs; whnf
  refine nextK_of (loop_at hlp (h6 k _ (by omega) rfl)) ?_
  conv => lhs; whnf
  refine nextK_of (aop_beginF (fs := pys) rfl rfl rfl rfl rfl rfl rfl rfl rfl rfl rfl rfl rfl hp0 (by omega)) ?_
  conv => lhs; whnf
  refine nextK_of (aop_ixO (i := pys.length - 1) rfl rfl rfl rfl rfl hw1 (by omega)) ?_
  conv => lhs; whnf
  refine nextK_of (aop_ldE1 rfl rfl hpD rfl rfl rfl) ?_
  conv => lhs; whnf
  refine nextK_of (aop_cutO (b := pys.length - 1) rfl rfl rfl rfl rfl hw1 (by omega)) ?_
  conv => lhs; whnf
  refine nextK_of (aop_ixO (i := q) rfl rfl rfl rfl rfl rfl (by omega)) ?_
  conv => lhs; whnf
  refine nextK_of (aop_ldE1 rfl rfl hcD rfl rfl rfl) ?_
  conv => lhs; whnf
  refine nextK_of (aop_ixO (i := q) rfl rfl rfl rfl rfl rfl (by omega)) ?_
  conv => lhs; whnf
  refine nextK_of (aop_stE rfl rfl rfl rfl rfl hcD rfl) ?_
  conv => lhs; whnf
  refine nextK_of h20 ?_
  conv => lhs; whnf
  refine iteO_t (by kernel_rfl) ?_
  conv => lhs; whnf
  refine nextK_of (aop_ixO (i := q) rfl rfl rfl rfl rfl rfl (by omega)) ?_
  conv => lhs; whnf
  refine nextK_of (aop_ldE1 rfl rfl hcS rfl rfl rfl) ?_
  conv => lhs; whnf
  refine nextK_of (aop_ix rfl rfl rfl rfl (ixL_at' hw2 hfD rfl)) ?_
  conv => lhs; whnf
  refine nextK_of (aop_ix rfl rfl rfl rfl (ixL_at' (n := g) rfl hpgD rfl)) ?_
  conv => lhs; whnf
  refine iteO_t (by kernel_rfl) ?_
  conv => lhs; whnf
  refine iteK_dec_t hcm' ?_
  conv => lhs; whnf
  refine Eq.trans (b := some (Res.ret (AV.agg [AV.d (D.list []), AV.d (D.list (List.take (List.length came) (List.set (iC came) q [D.int IntKind.i64 (IntKind.wrap IntKind.i64 (c + (1 : Int)))])))]), [])) (by kernel_rfl) ?_
  exact congr2 (show tC [] = tC [] from rfl) tc
theorem mv5bD (id : List UInt8) (ps : List PlaceT) (n : Nat) (hps : ps.length = n) (hn : n ≤ 4096) (hn0 : 0 < n) (hO : ∀ p ∈ ps, outsOk p.out n ∧ p.out.length ≤ 16) (toks : List TokT) (htl : toks.length ≤ 5000) (fl : Int) (a : Nat) (p : PlaceT) (hp : ps[a]? = some p) (came : List Int) (hc0 : came ≠ []) (hcl : came.length ≤ 1000) (w : Nat) (x : TokT) (r : List TokT) (pys : List Int) (hp0 : pys ≠ []) (hpl : pys.length ≤ 1000) (ht : toks[w]? = some ((a : Int), pys)) (hr : restS w 0 toks = (x :: r)) (o : FlowT) (hl0 : 0 < p.out.length) (hfo : p.out[fl.toNat % p.out.length]? = some o) (hf0 : 0 ≤ fl) (hk5 : p.kind = 5) (q g : Nat) (c : Int) (hq : getI pys (pys.length - 1) = (q : Int)) (hqc : came[q]? = some c) (hcb : 0 ≤ c ∧ c ≤ 1000) (g0 : (getR (rowsR ps).1.rows a).2 ≠ []) (hg : getI (getR (rowsR ps).1.rows a).2 ((getR (rowsR ps).1.rows a).2.length - 1) = (g : Int)) (pg : PlaceT) (hpgg : ps[g]? = some pg) (hcmp : ¬ c + 1 < (pg.out.length : Int)) (k : Nat) (hk : 110000 ≤ k) :
    icall Try.prog cfg (k + 1) 21 [.agg [.d (.str id), .d (.list (ps.map PlaceT.cells))], .agg [.d (.list (tC toks)), .d (.list (iC came))], .d (.int .i64 ((w : Nat) : Int)), .d (.int .i64 fl)] [] = some (.ret (gameV ((x :: r) ++ [(o.to, pys.dropLast)]) (came.set q (c + 1))), []) := by
  have hpg := place_get hp
  have htg : (tC toks)[w]? = some [.int .i64 (a : Int), .list (iC pys)] := tC_get ht
  have h6 := fun lf st => mvNil id (ps.map PlaceT.cells) toks came w fl a pys p htl k rfl toks.length 0 0 lf st (by omega) (by omega) rfl
  rw [List.drop_zero, hr] at h6
  simp only [mvY] at h6
  have han : a < n := by rw [← hps]; exact (List.getElem?_eq_some_iff.1 hp).1
  have h20 := forks20 id ps n hps hn hn0 hO a han k (by omega)
  have hfl1 : (getR (rowsR ps).1.rows a).2.length ≠ 0 := fun h => g0 (List.eq_nil_of_length_eq_zero h)
  have hfl2 : (getR (rowsR ps).1.rows a).2.length ≤ 16 := (((rowsR_ok (ps := ps) (by omega) (fun p hp => by rw [hps]; exact (hO p hp).1)).fks _ (List.mem_of_getElem? (getR_some (by rw [(rowsR_ok (ps := ps) (by omega) (fun p hp => by rw [hps]; exact (hO p hp).1)).len.1, hps]; exact han))))).1
  have hfg := getI_some (l := (getR (rowsR ps).1.rows a).2) (i := (getR (rowsR ps).1.rows a).2.length - 1) (by omega)
  rw [hg] at hfg
  generalize (getR (rowsR ps).1.rows a).2 = fks at *
  have hfD := iC_get hfg
  have hw2 : IntKind.i64.wrap (((iC fks).length : Int) - 1) = ((fks.length - 1 : Nat) : Int) := by rw [iC_len, wrap_i64 (by omega) (by omega)]; omega
  have hpgD := place_get hpgg
  have hl1 : pys.length ≠ 0 := fun h => hp0 (List.eq_nil_of_length_eq_zero h)
  have hpq := getI_some (l := pys) (i := pys.length - 1) (by omega)
  rw [hq] at hpq
  have hpD := iC_get hpq
  have hw1 : IntKind.i64.wrap ((((iC pys).take pys.length).length : Int) - 1) = ((pys.length - 1 : Nat) : Int) := by rw [iC_full, iC_len, wrap_i64 (by omega) (by omega)]; omega
  have hqlt : q < came.length := (List.getElem?_eq_some_iff.1 hqc).1
  have hcD := iC_get hqc
  have hw3 : IntKind.i64.wrap (c + 1) = c + 1 := wrap_i64 (by omega) (by omega)
  have hcS : ((iC came).set q [.int .i64 (IntKind.i64.wrap (c + 1))])[q]? = some [.int .i64 (IntKind.i64.wrap (c + 1))] := by rw [List.getElem?_set_self (by rw [iC_len]; exact hqlt)]
  have hcm' : ¬ IntKind.i64.wrap (c + 1) < ((pg.out.map FlowT.cells).length : Int) := by rw [hw3, List.length_map]; exact hcmp
  have tc : ((iC came).set q [D.int .i64 (IntKind.i64.wrap (c + 1))]).take came.length = iC (came.set q (c + 1)) := by rw [hw3, iC_set]; exact iC_fullN (by rw [List.length_set])
  have hrem : fl.tmod ((p.out.map FlowT.cells).length : Int) = ((fl.toNat % p.out.length : Nat) : Int) := by rw [List.length_map, Int.tmod_eq_emod_of_nonneg hf0, Int.natCast_emod, Int.toNat_of_nonneg hf0]
  have hlne : ((p.out.map FlowT.cells).length : Int) ≠ 0 := by rw [List.length_map]; omega
  have hfd := flow_get hfo
  have t1 : ((tC (x :: r)).take (x :: r).length ++ [[D.int .i64 o.to, D.list ((iC pys).take (pys.length - 1))]]).take ((x :: r).length + [[D.int .i64 o.to, D.list ((iC pys).take (pys.length - 1))]].length) = tC ((x :: r) ++ [(o.to, pys.dropLast)]) := by rw [iC_last, tC_app]; exact List.take_of_length_le (by rw [tC_len, List.length_append]; exact Nat.le_refl _)
  generalize x :: r = tk at *
  generalize hpc : ps.map PlaceT.cells = pl at *
  obtain ⟨kd, nm, nv, ar, ou⟩ := p
  dsimp only at *
  subst hk5
  rw [icall_body rfl Try.func21]
  obtain ⟨lp, hlp⟩ : ∃ lp, lp = lpOf Try.prog cfg (icall Try.prog cfg k) Try.f21.ntmps 21 k (([] : Hp).map (·.1)) := ⟨_, rfl⟩
  rw [← hlp]
  rw [← (show lp = lpOf Try.prog cfg (icall Try.prog cfg k) Try.f21.ntmps 21 k (([] : Hp).map (·.1)) from hlp)] at h6
  conv => lhs; whnf
  refine nextK_of (aop_ix rfl rfl rfl rfl (ixL_at' (n := w) rfl htg rfl)) ?_
  conv => lhs; whnf
  refine nextK_of (aop_ix rfl rfl rfl rfl (ixL_at' (n := a) rfl hpg rfl)) ?_
  conv => lhs; whnf
  refine nextK_of (aop_beginF (fs := came) rfl rfl rfl rfl rfl rfl rfl rfl rfl rfl rfl rfl rfl hc0 (by omega)) ?_
  conv => lhs; whnf
  refine nextK_of (loop_at hlp (h6 k _ (by omega) rfl)) ?_
  conv => lhs; whnf
  refine nextK_of (aop_beginF (fs := pys) rfl rfl rfl rfl rfl rfl rfl rfl rfl rfl rfl rfl rfl hp0 (by omega)) ?_
  conv => lhs; whnf
  refine nextK_of (aop_ixO (i := pys.length - 1) rfl rfl rfl rfl rfl hw1 (by omega)) ?_
  conv => lhs; whnf
  refine nextK_of (aop_ldE1 rfl rfl hpD rfl rfl rfl) ?_
  conv => lhs; whnf
  refine nextK_of (aop_cutO (b := pys.length - 1) rfl rfl rfl rfl rfl hw1 (by omega)) ?_
  conv => lhs; whnf
  refine nextK_of (aop_ixO (i := q) rfl rfl rfl rfl rfl rfl (by omega)) ?_
  conv => lhs; whnf
  refine nextK_of (aop_ldE1 rfl rfl hcD rfl rfl rfl) ?_
  conv => lhs; whnf
  refine nextK_of (aop_ixO (i := q) rfl rfl rfl rfl rfl rfl (by omega)) ?_
  conv => lhs; whnf
  refine nextK_of (aop_stE rfl rfl rfl rfl rfl hcD rfl) ?_
  conv => lhs; whnf
  refine nextK_of h20 ?_
  conv => lhs; whnf
  refine iteO_t (by kernel_rfl) ?_
  conv => lhs; whnf
  refine nextK_of (aop_ixO (i := q) rfl rfl rfl rfl rfl rfl (by omega)) ?_
  conv => lhs; whnf
  refine nextK_of (aop_ldE1 rfl rfl hcS rfl rfl rfl) ?_
  conv => lhs; whnf
  refine nextK_of (aop_ix rfl rfl rfl rfl (ixL_at' hw2 hfD rfl)) ?_
  conv => lhs; whnf
  refine nextK_of (aop_ix rfl rfl rfl rfl (ixL_at' (n := g) rfl hpgD rfl)) ?_
  conv => lhs; whnf
  refine iteO_t (by kernel_rfl) ?_
  conv => lhs; whnf
  refine iteK_dec_f hcm' ?_
  conv => lhs; whnf
  refine iteO_t (by kernel_rfl) ?_
  conv => lhs; whnf
  refine nextK_of (aop_rem rfl rfl hlne) ?_
  conv => lhs; whnf
  refine nextK_of (aop_ix rfl rfl rfl rfl (ixL_at' hrem hfd rfl)) ?_
  conv => lhs; whnf
  refine nextK_of (aop_app rfl rfl rfl rfl rfl rfl rfl rfl rfl rfl rfl rfl (lenG (by have := rest_le w 0 toks; rw [hr] at this; omega) (Nat.le_of_ble_eq_true rfl))) ?_
  conv => lhs; whnf
  refine iteO_t (by kernel_rfl) ?_
  conv => lhs; whnf
  refine Eq.trans (b := some (Res.ret (AV.agg [AV.d (D.list (List.take (List.length tk + List.length [[D.int IntKind.i64 o.to, D.list (List.take (List.length pys - (1 : Nat)) (iC pys))]]) (List.append (List.take (List.length tk) (tC tk)) [[D.int IntKind.i64 o.to, D.list (List.take (List.length pys - (1 : Nat)) (iC pys))]]))), AV.d (D.list (List.take (List.length came) (List.set (iC came) q [D.int IntKind.i64 (IntKind.wrap IntKind.i64 (c + (1 : Int)))])))]), [])) (by kernel_rfl) ?_
  exact congr2 t1 tc
theorem mv5bE (id : List UInt8) (ps : List PlaceT) (n : Nat) (hps : ps.length = n) (hn : n ≤ 4096) (hn0 : 0 < n) (hO : ∀ p ∈ ps, outsOk p.out n ∧ p.out.length ≤ 16) (toks : List TokT) (htl : toks.length ≤ 5000) (fl : Int) (a : Nat) (p : PlaceT) (hp : ps[a]? = some p) (came : List Int) (hc0 : came ≠ []) (hcl : came.length ≤ 1000) (w : Nat) (pys : List Int) (hp0 : pys ≠ []) (hpl : pys.length ≤ 1000) (ht : toks[w]? = some ((a : Int), pys)) (hr : restS w 0 toks = []) (o : FlowT) (hl0 : 0 < p.out.length) (hfo : p.out[fl.toNat % p.out.length]? = some o) (hf0 : 0 ≤ fl) (hk5 : p.kind = 5) (q g : Nat) (c : Int) (hq : getI pys (pys.length - 1) = (q : Int)) (hqc : came[q]? = some c) (hcb : 0 ≤ c ∧ c ≤ 1000) (g0 : (getR (rowsR ps).1.rows a).2 ≠ []) (hg : getI (getR (rowsR ps).1.rows a).2 ((getR (rowsR ps).1.rows a).2.length - 1) = (g : Int)) (pg : PlaceT) (hpgg : ps[g]? = some pg) (hcmp : ¬ c + 1 < (pg.out.length : Int)) (k : Nat) (hk : 110000 ≤ k) :
    icall Try.prog cfg (k + 1) 21 [.agg [.d (.str id), .d (.list (ps.map PlaceT.cells))], .agg [.d (.list (tC toks)), .d (.list (iC came))], .d (.int .i64 ((w : Nat) : Int)), .d (.int .i64 fl)] [] = some (.ret (gameV ([(o.to, pys.dropLast)]) (came.set q (c + 1))), []) := by
  have hpg := place_get hp
  have htg : (tC toks)[w]? = some [.int .i64 (a : Int), .list (iC pys)] := tC_get ht
  have h6 := fun lf st => mvNil id (ps.map PlaceT.cells) toks came w fl a pys p htl k rfl toks.length 0 0 lf st (by omega) (by omega) rfl
  rw [List.drop_zero, hr] at h6
  simp only [mvY] at h6
  have han : a < n := by rw [← hps]; exact (List.getElem?_eq_some_iff.1 hp).1
  have h20 := forks20 id ps n hps hn hn0 hO a han k (by omega)
  have hfl1 : (getR (rowsR ps).1.rows a).2.length ≠ 0 := fun h => g0 (List.eq_nil_of_length_eq_zero h)
  have hfl2 : (getR (rowsR ps).1.rows a).2.length ≤ 16 := (((rowsR_ok (ps := ps) (by omega) (fun p hp => by rw [hps]; exact (hO p hp).1)).fks _ (List.mem_of_getElem? (getR_some (by rw [(rowsR_ok (ps := ps) (by omega) (fun p hp => by rw [hps]; exact (hO p hp).1)).len.1, hps]; exact han))))).1
  have hfg := getI_some (l := (getR (rowsR ps).1.rows a).2) (i := (getR (rowsR ps).1.rows a).2.length - 1) (by omega)
  rw [hg] at hfg
  generalize (getR (rowsR ps).1.rows a).2 = fks at *
  have hfD := iC_get hfg
  have hw2 : IntKind.i64.wrap (((iC fks).length : Int) - 1) = ((fks.length - 1 : Nat) : Int) := by rw [iC_len, wrap_i64 (by omega) (by omega)]; omega
  have hpgD := place_get hpgg
  have hl1 : pys.length ≠ 0 := fun h => hp0 (List.eq_nil_of_length_eq_zero h)
  have hpq := getI_some (l := pys) (i := pys.length - 1) (by omega)
  rw [hq] at hpq
  have hpD := iC_get hpq
  have hw1 : IntKind.i64.wrap ((((iC pys).take pys.length).length : Int) - 1) = ((pys.length - 1 : Nat) : Int) := by rw [iC_full, iC_len, wrap_i64 (by omega) (by omega)]; omega
  have hqlt : q < came.length := (List.getElem?_eq_some_iff.1 hqc).1
  have hcD := iC_get hqc
  have hw3 : IntKind.i64.wrap (c + 1) = c + 1 := wrap_i64 (by omega) (by omega)
  have hcS : ((iC came).set q [.int .i64 (IntKind.i64.wrap (c + 1))])[q]? = some [.int .i64 (IntKind.i64.wrap (c + 1))] := by rw [List.getElem?_set_self (by rw [iC_len]; exact hqlt)]
  have hcm' : ¬ IntKind.i64.wrap (c + 1) < ((pg.out.map FlowT.cells).length : Int) := by rw [hw3, List.length_map]; exact hcmp
  have tc : ((iC came).set q [D.int .i64 (IntKind.i64.wrap (c + 1))]).take came.length = iC (came.set q (c + 1)) := by rw [hw3, iC_set]; exact iC_fullN (by rw [List.length_set])
  have hrem : fl.tmod ((p.out.map FlowT.cells).length : Int) = ((fl.toNat % p.out.length : Nat) : Int) := by rw [List.length_map, Int.tmod_eq_emod_of_nonneg hf0, Int.natCast_emod, Int.toNat_of_nonneg hf0]
  have hlne : ((p.out.map FlowT.cells).length : Int) ≠ 0 := by rw [List.length_map]; omega
  have hfd := flow_get hfo
  have t1 : [[D.int .i64 o.to, D.list ((iC pys).take (pys.length - 1))]] = tC [(o.to, pys.dropLast)] := by rw [iC_last]; rfl
  generalize hpc : ps.map PlaceT.cells = pl at *
  obtain ⟨kd, nm, nv, ar, ou⟩ := p
  dsimp only at *
  subst hk5
  rw [icall_body rfl Try.func21]
  obtain ⟨lp, hlp⟩ : ∃ lp, lp = lpOf Try.prog cfg (icall Try.prog cfg k) Try.f21.ntmps 21 k (([] : Hp).map (·.1)) := ⟨_, rfl⟩
  rw [← hlp]
  rw [← (show lp = lpOf Try.prog cfg (icall Try.prog cfg k) Try.f21.ntmps 21 k (([] : Hp).map (·.1)) from hlp)] at h6
  conv => lhs; whnf
  refine nextK_of (aop_ix rfl rfl rfl rfl (ixL_at' (n := w) rfl htg rfl)) ?_
  conv => lhs; whnf
  refine nextK_of (aop_ix rfl rfl rfl rfl (ixL_at' (n := a) rfl hpg rfl)) ?_
  conv => lhs; whnf
  refine nextK_of (aop_beginF (fs := came) rfl rfl rfl rfl rfl rfl rfl rfl rfl rfl rfl rfl rfl hc0 (by omega)) ?_
  conv => lhs; whnf
  refine nextK_of (loop_at hlp (h6 k _ (by omega) rfl)) ?_
  conv => lhs; whnf
  refine nextK_of (aop_beginF (fs := pys) rfl rfl rfl rfl rfl rfl rfl rfl rfl rfl rfl rfl rfl hp0 (by omega)) ?_
  conv => lhs; whnf
  refine nextK_of (aop_ixO (i := pys.length - 1) rfl rfl rfl rfl rfl hw1 (by omega)) ?_
  conv => lhs; whnf
  refine nextK_of (aop_ldE1 rfl rfl hpD rfl rfl rfl) ?_
  conv => lhs; whnf
  refine nextK_of (aop_cutO (b := pys.length - 1) rfl rfl rfl rfl rfl hw1 (by omega)) ?_
  conv => lhs; whnf
  refine nextK_of (aop_ixO (i := q) rfl rfl rfl rfl rfl rfl (by omega)) ?_
  conv => lhs; whnf
  refine nextK_of (aop_ldE1 rfl rfl hcD rfl rfl rfl) ?_
  conv => lhs; whnf
  refine nextK_of (aop_ixO (i := q) rfl rfl rfl rfl rfl rfl (by omega)) ?_
  conv => lhs; whnf
  refine nextK_of (aop_stE rfl rfl rfl rfl rfl hcD rfl) ?_
  conv => lhs; whnf
  refine nextK_of h20 ?_
  conv => lhs; whnf
  refine iteO_t (by kernel_rfl) ?_
  conv => lhs; whnf
  refine nextK_of (aop_ixO (i := q) rfl rfl rfl rfl rfl rfl (by omega)) ?_
  conv => lhs; whnf
  refine nextK_of (aop_ldE1 rfl rfl hcS rfl rfl rfl) ?_
  conv => lhs; whnf
  refine nextK_of (aop_ix rfl rfl rfl rfl (ixL_at' hw2 hfD rfl)) ?_
  conv => lhs; whnf
  refine nextK_of (aop_ix rfl rfl rfl rfl (ixL_at' (n := g) rfl hpgD rfl)) ?_
  conv => lhs; whnf
  refine iteO_t (by kernel_rfl) ?_
  conv => lhs; whnf
  refine iteK_dec_f hcm' ?_
  conv => lhs; whnf
  refine iteO_t (by kernel_rfl) ?_
  conv => lhs; whnf
  refine nextK_of (aop_rem rfl rfl hlne) ?_
  conv => lhs; whnf
  refine nextK_of (aop_ix rfl rfl rfl rfl (ixL_at' hrem hfd rfl)) ?_
  conv => lhs; whnf
  refine iteO_t (by kernel_rfl) ?_
  conv => lhs; whnf
  refine Eq.trans (b := some (Res.ret (AV.agg [AV.d (D.list [[D.int IntKind.i64 o.to, D.list (List.take (List.length pys - (1 : Nat)) (iC pys))]]), AV.d (D.list (List.take (List.length came) (List.set (iC came) q [D.int IntKind.i64 (IntKind.wrap IntKind.i64 (c + (1 : Int)))])))]), [])) (by kernel_rfl) ?_
  exact congr2 t1 tc
end Go.Rx12
