/- A part of the proof of the law: what functions of the program come to, walked by Rx, or plain facts on it. -/
import Derived.Test.YtaghcidejnhahaaRLawNests
open Go Go.Rx Go.Proofs Go.Rx12 Go.RxTree
set_option maxRecDepth 1000000
set_option maxHeartbeats 4000000
set_option linter.unusedVariables false
set_option linter.unusedSimpArgs false
namespace Go.Rx12
theorem nestL (j : Nat) (id : List UInt8) (ps : List PlaceT) (n : Nat) (hn : n ≤ 4096) (hps : PsOk ps n) (w : Wk) (B : Bal ps n w) {lp : LP} (hlp : lp = lpOf Try.prog cfg (icall Try.prog cfg j) Try.f5.ntmps 5 j (([] : Hp).map (·.1))) :
    ∀ (m i : Nat) (z : Int) (lf : Nat) (st : St), ps.length - i = m → i ≤ ps.length → z = (i : Int) → m < lf → prune [] [1, 3, 5] st = some ⟨[(1, .ptr (.slot 1) 0), (3, .ptr (.slot 3) 0), (5, .d (.int .i64 z))], [(.slot 1, .cells [.d (.str id), .d (.list (ps.map PlaceT.cells))]), (.slot 3, .cells [.d (.list (iC w.fork)), .d (.list (iC w.deep)), .d (.list (iC w.join))])]⟩ →
      loopK Try.prog cfg (icall Try.prog cfg j) lp Try.f5.ntmps 5 [] (bodyAt Try.f5 9) lf st (exitP [] (some [2])) = some (.exit 0, ⟨[(2, .undef)], []⟩) := by
  intro m
  have hmx : 4097 ≤ maxLen := by decide
  have hpl := hps.len
  obtain ⟨l1, l2, l3, l4, l5⟩ := B.len
  induction m with
  | zero =>
    intro i z lf st hi hle hz hlf hp
    obtain ⟨lf, rfl⟩ : ∃ n, lf = n + 1 := ⟨lf - 1, by omega⟩
    have hend : ¬ z < ((ps.map PlaceT.cells).length : Int) := by rw [List.length_map]; omega
    refine loop_step hp ?_
    conv => lhs; whnf
    refine iteK_dec_f hend ?_
    conv => lhs; whnf
    refine Eq.trans (b := some (Fx.exit (0 : Nat), St.mk [((2 : Nat), AV.undef)] [])) (by kernel_rfl) ?_
    rfl
  | succ m ihm =>
    intro i z lf st hi hle hz hlf hp
    obtain ⟨lf, rfl⟩ : ∃ n, lf = n + 1 := ⟨lf - 1, by omega⟩
    have hend : z < ((ps.map PlaceT.cells).length : Int) := by rw [List.length_map]; omega
    have hx : ps[i]? = some ps[i] := List.getElem?_eq_getElem (by omega)
    generalize ps[i] = p at hx
    have hpg := place_get hx
    have hih := fun lf st => ihm (i + 1) (IntKind.i64.wrap (z + 1)) lf st (by omega) (by omega) (wrap_up hz (by omega))
    have a1 := iC_get (getI_some (l := w.fork) (i := i) (by omega))
    have a2 := iC_get (getI_some (l := w.deep) (i := i) (by omega))
    have a3 := iC_get (getI_some (l := w.join) (i := i) (by omega))
    have hm := B.met i (by omega)
    obtain ⟨hc1, hc2⟩ := B.inv.ctx i hm
    by_cases g4 : p.kind = 4
    · have hJ := B.join i p hx g4
      obtain ⟨u, q1, q2, q3, q4, q5, q6, q7⟩ := B.jinv i hJ
      have hun : u < n := by
        by_cases h : u < n
        · exact h
        · rw [getB, List.getElem?_eq_none (by omega)] at q4; cases q4
      have hxu : ps[u]? = some ps[u] := List.getElem?_eq_getElem (by omega)
      generalize ps[u] = v at hxu
      rw [kind_some hxu] at q5
      have hpu := place_get hxu
      have hok := hps.pl v (List.mem_of_getElem? hxu)
      have hlen := hok.len
      rw [q5] at hlen
      have hlen1 : (1 : Int) ≤ (v.out.length : Int) := hlen.1
      have hx0 : v.out[0]? = some v.out[0] := List.getElem?_eq_getElem (by omega)
      generalize v.out[0] = o at hx0
      have hob := hok.out o (List.mem_of_getElem? hx0)
      obtain ⟨_, q8⟩ := q7 v hxu o (List.mem_of_getElem? hx0)
      have ht : o.to = (o.to.toNat : Int) := by omega
      have hfo := flow_get hx0
      rw [ht] at hfo
      generalize o.to.toNat = t at *
      have a5 := iC_get (getI_some (l := w.fork) (i := u) (by omega))
      have a6 := iC_get (getI_some (l := w.fork) (i := t) (by omega))
      rw [q6] at a5
      rw [q8] at a6
      rw [q1] at a3 hJ
      clear q7
      by_cases g0 : getI w.fork i = 0
      · rw [g0] at a1 a6
        rw [hc1 g0] at a2
        refine loop_step hp ?_
        conv => lhs; whnf
        refine iteK_dec_t hend ?_
        conv => lhs; whnf
        refine nextK_of (aop_ix rfl rfl rfl rfl (ixL_at' hz hpg rfl)) ?_
        conv => lhs; whnf
        refine iteO_t (by kernel_rfl) ?_
        conv => lhs; whnf
        refine nextK_of (aop_ix rfl rfl rfl rfl (ixL_at' hz a1 rfl)) ?_
        conv => lhs; whnf
        refine nextK_of (aop_ix rfl rfl rfl rfl (ixL_at' hz a1 rfl)) ?_
        conv => lhs; whnf
        refine nextK_of (aop_ix rfl rfl rfl rfl (ixL_at' hz a2 rfl)) ?_
        conv => lhs; whnf
        refine iteO_t (by kernel_rfl) ?_
        conv => lhs; whnf
        refine iteO_t (by kernel_rfl) ?_
        conv => lhs; whnf
        refine nextK_of (aop_ix rfl rfl rfl rfl (ixL_at' hz a3 rfl)) ?_
        conv => lhs; whnf
        refine iteO_t (by kernel_rfl) ?_
        conv => lhs; whnf
        refine iteK_not ?_
        conv => lhs; whnf
        refine iteK_beq (fun h1 => ?_) (fun h1 => ?_)
        · rw [beq_t h1]
          conv => lhs; whnf
          refine iteK_bne_f g4 ?_
          conv => lhs; whnf
          refine nextK_of (aop_ix rfl rfl rfl rfl (ixL_at' hz a3 rfl)) ?_
          conv => lhs; whnf
          refine iteO_t (by kernel_rfl) ?_
          conv => lhs; whnf
          refine nextK_of (aop_ix rfl rfl rfl rfl (ixL_at' (n := u) rfl hpu rfl)) ?_
          conv => lhs; whnf
          refine iteK_bne_f q5 ?_
          conv => lhs; whnf
          refine iteK_bne_f q5 ?_
          conv => lhs; whnf
          refine iteK_bne_f q5 ?_
          conv => lhs; whnf
          refine iteK_bne_f q5 ?_
          conv => lhs; whnf
          refine nextK_of (aop_ix rfl rfl rfl rfl (ixL_at' (n := u) rfl a5 rfl)) ?_
          conv => lhs; whnf
          refine iteK_bne_f q5 ?_
          conv => lhs; whnf
          refine iteK_bne_f q5 ?_
          conv => lhs; whnf
          refine iteK_bne_f q5 ?_
          conv => lhs; whnf
          refine iteK_bne_f q5 ?_
          conv => lhs; whnf
          refine iteK_bne (fun h2 => ?_) (fun h2 => ?_)
          · rw [bne_t h2]
            (exfalso; omega)
          · rw [bne_f h2]
            conv => lhs; whnf
            refine nextK_of (aop_ix rfl rfl rfl rfl (ixL_at' (n := u) rfl hpu rfl)) ?_
            conv => lhs; whnf
            refine nextK_of (aop_ix rfl rfl rfl rfl (ixL_at' (n := 0) rfl hfo rfl)) ?_
            conv => lhs; whnf
            refine nextK_of (aop_ix rfl rfl rfl rfl (ixL_at' (n := t) rfl a6 rfl)) ?_
            conv => lhs; whnf
            refine nextK_of (aop_ix rfl rfl rfl rfl (ixL_at' hz a1 rfl)) ?_
            conv => lhs; whnf
            refine iteO_t (by kernel_rfl) ?_
            conv => lhs; whnf
            refine Eq.trans (hih lf _ (by omega) rfl) ?_
            rfl
        · rw [beq_f h1]
          conv => lhs; whnf
          refine Eq.trans (b := some (Fx.ret, St.mk [((2 : Nat), AV.d (D.bool false))] [])) (by kernel_rfl) ?_
          exact absurd (show ((u : Int) != 0) = (p.kind == 4) by rw [show ((u : Int) != 0) = true from bne_iff_ne.2 hJ, g4]; rfl) h1
      · obtain ⟨g, e1, e2, e3, e4, e5⟩ := hc2 g0
        clear hc1 hc2
        have hfb := getI_mem (P := fun z => 0 ≤ z ∧ z < (n : Int)) B.bd.fork (i := i) (by omega)
        have hxg : ps[g]? = some ps[g] := List.getElem?_eq_getElem (by omega)
        generalize ps[g] = q at hxg
        rw [kind_some hxg] at e3
        have hpq := place_get hxg
        have a4 := iC_get (getI_some (l := w.deep) (i := g) (by omega))
        have hdb := getI_mem (P := fun z => -(n : Int) ≤ z ∧ z ≤ 16) B.bd.deep (i := g) (by omega)
        have hg0 : (g : Int) ≠ 0 := by omega
        rw [e1] at a1 a6
        rw [e4] at a2
        generalize getI w.deep g = dg at *
        have hw : dg + 1 = IntKind.i64.wrap (dg + 1) := (wrap_i64 (by omega) (by omega)).symm
        refine loop_step hp ?_
        conv => lhs; whnf
        refine iteK_dec_t hend ?_
        conv => lhs; whnf
        refine nextK_of (aop_ix rfl rfl rfl rfl (ixL_at' hz hpg rfl)) ?_
        conv => lhs; whnf
        refine iteO_t (by kernel_rfl) ?_
        conv => lhs; whnf
        refine nextK_of (aop_ix rfl rfl rfl rfl (ixL_at' hz a1 rfl)) ?_
        conv => lhs; whnf
        refine iteK_bne_t hg0 ?_
        conv => lhs; whnf
        refine iteK_bne_t hg0 ?_
        conv => lhs; whnf
        refine iteK_bne_t hg0 ?_
        conv => lhs; whnf
        refine iteK_bne_t hg0 ?_
        conv => lhs; whnf
        refine iteK_bne_t hg0 ?_
        conv => lhs; whnf
        refine iteK_bne_t hg0 ?_
        conv => lhs; whnf
        refine nextK_of (aop_ix rfl rfl rfl rfl (ixL_at' hz a1 rfl)) ?_
        conv => lhs; whnf
        refine iteK_bne_t hg0 ?_
        conv => lhs; whnf
        refine iteK_bne_t hg0 ?_
        conv => lhs; whnf
        refine nextK_of (aop_ix rfl rfl rfl rfl (ixL_at' (n := g) rfl hpq rfl)) ?_
        conv => lhs; whnf
        refine iteK_bne_t hg0 ?_
        conv => lhs; whnf
        refine iteK_bne_t hg0 ?_
        conv => lhs; whnf
        refine iteK_bne_t hg0 ?_
        conv => lhs; whnf
        refine iteK_bne_t hg0 ?_
        conv => lhs; whnf
        refine iteK_bne_f e3 ?_
        conv => lhs; whnf
        refine iteK_bne_f e3 ?_
        conv => lhs; whnf
        refine iteK_bne_f e3 ?_
        conv => lhs; whnf
        refine iteK_bne_f e3 ?_
        conv => lhs; whnf
        refine nextK_of (aop_ix rfl rfl rfl rfl (ixL_at' hz a2 rfl)) ?_
        conv => lhs; whnf
        refine iteK_bne_f e3 ?_
        conv => lhs; whnf
        refine iteK_bne_f e3 ?_
        conv => lhs; whnf
        refine iteK_bne_f e3 ?_
        conv => lhs; whnf
        refine iteK_bne_f e3 ?_
        conv => lhs; whnf
        refine iteK_bne_f e3 ?_
        conv => lhs; whnf
        refine iteK_bne_f e3 ?_
        conv => lhs; whnf
        refine iteK_bne_f e3 ?_
        conv => lhs; whnf
        refine nextK_of (aop_ix rfl rfl rfl rfl (ixL_at' hz a1 rfl)) ?_
        conv => lhs; whnf
        refine iteK_bne_f e3 ?_
        conv => lhs; whnf
        refine iteK_bne_f e3 ?_
        conv => lhs; whnf
        refine nextK_of (aop_ix rfl rfl rfl rfl (ixL_at' (n := g) rfl a4 rfl)) ?_
        conv => lhs; whnf
        refine iteK_bne_f e3 ?_
        conv => lhs; whnf
        refine iteK_bne_f e3 ?_
        conv => lhs; whnf
        refine iteK_bne_f e3 ?_
        conv => lhs; whnf
        refine iteK_bne_t hg0 ?_
        conv => lhs; whnf
        refine iteK_bne_f e3 ?_
        conv => lhs; whnf
        refine iteK_bne_t hg0 ?_
        conv => lhs; whnf
        refine iteK_bne_f hw ?_
        conv => lhs; whnf
        refine iteK_bne_f hw ?_
        conv => lhs; whnf
        refine iteK_bne_f hw ?_
        conv => lhs; whnf
        refine iteK_bne_f hw ?_
        conv => lhs; whnf
        refine nextK_of (aop_ix rfl rfl rfl rfl (ixL_at' hz a1 rfl)) ?_
        conv => lhs; whnf
        refine iteK_bne_f hw ?_
        conv => lhs; whnf
        refine iteK_bne_f hw ?_
        conv => lhs; whnf
        refine iteK_bne_f hw ?_
        conv => lhs; whnf
        refine iteK_beq_f hg0 ?_
        conv => lhs; whnf
        refine iteK_beq_f hg0 ?_
        conv => lhs; whnf
        refine iteK_beq_f hg0 ?_
        conv => lhs; whnf
        refine iteK_beq_f hg0 ?_
        conv => lhs; whnf
        refine iteK_beq_f hg0 ?_
        conv => lhs; whnf
        refine iteK_beq_f hg0 ?_
        conv => lhs; whnf
        refine iteK_bne_f hw ?_
        conv => lhs; whnf
        refine iteK_beq_f hg0 ?_
        conv => lhs; whnf
        refine iteK_bne_f hw ?_
        conv => lhs; whnf
        refine iteO_t (by kernel_rfl) ?_
        conv => lhs; whnf
        refine iteO_t (by kernel_rfl) ?_
        conv => lhs; whnf
        refine nextK_of (aop_ix rfl rfl rfl rfl (ixL_at' hz a3 rfl)) ?_
        conv => lhs; whnf
        refine iteO_t (by kernel_rfl) ?_
        conv => lhs; whnf
        refine iteK_not ?_
        conv => lhs; whnf
        refine iteK_beq (fun h1 => ?_) (fun h1 => ?_)
        · rw [beq_t h1]
          conv => lhs; whnf
          refine iteK_bne_f g4 ?_
          conv => lhs; whnf
          refine nextK_of (aop_ix rfl rfl rfl rfl (ixL_at' hz a3 rfl)) ?_
          conv => lhs; whnf
          refine iteO_t (by kernel_rfl) ?_
          conv => lhs; whnf
          refine nextK_of (aop_ix rfl rfl rfl rfl (ixL_at' (n := u) rfl hpu rfl)) ?_
          conv => lhs; whnf
          refine iteK_bne_f q5 ?_
          conv => lhs; whnf
          refine iteK_bne_f q5 ?_
          conv => lhs; whnf
          refine iteK_bne_f q5 ?_
          conv => lhs; whnf
          refine iteK_bne_f q5 ?_
          conv => lhs; whnf
          refine nextK_of (aop_ix rfl rfl rfl rfl (ixL_at' (n := u) rfl a5 rfl)) ?_
          conv => lhs; whnf
          refine iteK_bne_f q5 ?_
          conv => lhs; whnf
          refine iteK_bne_f q5 ?_
          conv => lhs; whnf
          refine iteK_bne_f q5 ?_
          conv => lhs; whnf
          refine iteK_bne_f q5 ?_
          conv => lhs; whnf
          refine iteK_bne (fun h2 => ?_) (fun h2 => ?_)
          · rw [bne_t h2]
            (exfalso; omega)
          · rw [bne_f h2]
            conv => lhs; whnf
            refine nextK_of (aop_ix rfl rfl rfl rfl (ixL_at' (n := u) rfl hpu rfl)) ?_
            conv => lhs; whnf
            refine nextK_of (aop_ix rfl rfl rfl rfl (ixL_at' (n := 0) rfl hfo rfl)) ?_
            conv => lhs; whnf
            refine nextK_of (aop_ix rfl rfl rfl rfl (ixL_at' (n := t) rfl a6 rfl)) ?_
            conv => lhs; whnf
            refine nextK_of (aop_ix rfl rfl rfl rfl (ixL_at' hz a1 rfl)) ?_
            conv => lhs; whnf
            refine iteO_t (by kernel_rfl) ?_
            conv => lhs; whnf
            refine iteK_bne (fun h3 => ?_) (fun h3 => ?_)
            · rw [bne_t h3]
              (exfalso; omega)
            · rw [bne_f h3]
              conv => lhs; whnf
              refine Eq.trans (hih lf _ (by omega) rfl) ?_
              rfl
        · rw [beq_f h1]
          conv => lhs; whnf
          refine Eq.trans (b := some (Fx.ret, St.mk [((2 : Nat), AV.d (D.bool false))] [])) (by kernel_rfl) ?_
          exact absurd (show ((u : Int) != 0) = (p.kind == 4) by rw [show ((u : Int) != 0) = true from bne_iff_ne.2 hJ, g4]; rfl) h1
    · have hJ : getI w.join i = 0 := by
        by_cases h : getI w.join i = 0
        · exact h
        · obtain ⟨q, q1, q2, q3, _⟩ := B.jinv i h
          rw [kind_some hx] at q3; exact absurd q3 g4
      rw [hJ] at a3
      by_cases g0 : getI w.fork i = 0
      · rw [g0] at a1
        rw [hc1 g0] at a2
        refine loop_step hp ?_
        conv => lhs; whnf
        refine iteK_dec_t hend ?_
        conv => lhs; whnf
        refine nextK_of (aop_ix rfl rfl rfl rfl (ixL_at' hz hpg rfl)) ?_
        conv => lhs; whnf
        refine iteO_t (by kernel_rfl) ?_
        conv => lhs; whnf
        refine nextK_of (aop_ix rfl rfl rfl rfl (ixL_at' hz a1 rfl)) ?_
        conv => lhs; whnf
        refine nextK_of (aop_ix rfl rfl rfl rfl (ixL_at' hz a1 rfl)) ?_
        conv => lhs; whnf
        refine nextK_of (aop_ix rfl rfl rfl rfl (ixL_at' hz a2 rfl)) ?_
        conv => lhs; whnf
        refine iteO_t (by kernel_rfl) ?_
        conv => lhs; whnf
        refine iteO_t (by kernel_rfl) ?_
        conv => lhs; whnf
        refine nextK_of (aop_ix rfl rfl rfl rfl (ixL_at' hz a3 rfl)) ?_
        conv => lhs; whnf
        refine iteO_t (by kernel_rfl) ?_
        conv => lhs; whnf
        refine iteK_not ?_
        conv => lhs; whnf
        refine iteK_beq (fun h1 => ?_) (fun h1 => ?_)
        · rw [beq_t h1]
          conv => lhs; whnf
          refine iteK_bne_t g4 ?_
          conv => lhs; whnf
          refine Eq.trans (hih lf _ (by omega) rfl) ?_
          rfl
        · rw [beq_f h1]
          conv => lhs; whnf
          refine Eq.trans (b := some (Fx.ret, St.mk [((2 : Nat), AV.d (D.bool false))] [])) (by kernel_rfl) ?_
          exact absurd (show ((0 : Int) != 0) = (p.kind == 4) by rw [beq_f g4]; rfl) h1
      · obtain ⟨g, e1, e2, e3, e4, e5⟩ := hc2 g0
        clear hc1 hc2
        have hfb := getI_mem (P := fun z => 0 ≤ z ∧ z < (n : Int)) B.bd.fork (i := i) (by omega)
        have hxg : ps[g]? = some ps[g] := List.getElem?_eq_getElem (by omega)
        generalize ps[g] = q at hxg
        rw [kind_some hxg] at e3
        have hpq := place_get hxg
        have a4 := iC_get (getI_some (l := w.deep) (i := g) (by omega))
        have hdb := getI_mem (P := fun z => -(n : Int) ≤ z ∧ z ≤ 16) B.bd.deep (i := g) (by omega)
        have hg0 : (g : Int) ≠ 0 := by omega
        rw [e1] at a1
        rw [e4] at a2
        generalize getI w.deep g = dg at *
        have hw : dg + 1 = IntKind.i64.wrap (dg + 1) := (wrap_i64 (by omega) (by omega)).symm
        refine loop_step hp ?_
        conv => lhs; whnf
        refine iteK_dec_t hend ?_
        conv => lhs; whnf
        refine nextK_of (aop_ix rfl rfl rfl rfl (ixL_at' hz hpg rfl)) ?_
        conv => lhs; whnf
        refine iteO_t (by kernel_rfl) ?_
        conv => lhs; whnf
        refine nextK_of (aop_ix rfl rfl rfl rfl (ixL_at' hz a1 rfl)) ?_
        conv => lhs; whnf
        refine iteK_bne_t hg0 ?_
        conv => lhs; whnf
        refine iteK_bne_t hg0 ?_
        conv => lhs; whnf
        refine iteK_bne_t hg0 ?_
        conv => lhs; whnf
        refine iteK_bne_t hg0 ?_
        conv => lhs; whnf
        refine iteK_bne_t hg0 ?_
        conv => lhs; whnf
        refine iteK_bne_t hg0 ?_
        conv => lhs; whnf
        refine nextK_of (aop_ix rfl rfl rfl rfl (ixL_at' hz a1 rfl)) ?_
        conv => lhs; whnf
        refine iteK_bne_t hg0 ?_
        conv => lhs; whnf
        refine iteK_bne_t hg0 ?_
        conv => lhs; whnf
        refine nextK_of (aop_ix rfl rfl rfl rfl (ixL_at' (n := g) rfl hpq rfl)) ?_
        conv => lhs; whnf
        refine iteK_bne_t hg0 ?_
        conv => lhs; whnf
        refine iteK_bne_t hg0 ?_
        conv => lhs; whnf
        refine iteK_bne_t hg0 ?_
        conv => lhs; whnf
        refine iteK_bne_t hg0 ?_
        conv => lhs; whnf
        refine iteK_bne_f e3 ?_
        conv => lhs; whnf
        refine iteK_bne_f e3 ?_
        conv => lhs; whnf
        refine iteK_bne_f e3 ?_
        conv => lhs; whnf
        refine iteK_bne_f e3 ?_
        conv => lhs; whnf
        refine nextK_of (aop_ix rfl rfl rfl rfl (ixL_at' hz a2 rfl)) ?_
        conv => lhs; whnf
        refine iteK_bne_f e3 ?_
        conv => lhs; whnf
        refine iteK_bne_f e3 ?_
        conv => lhs; whnf
        refine iteK_bne_f e3 ?_
        conv => lhs; whnf
        refine iteK_bne_f e3 ?_
        conv => lhs; whnf
        refine iteK_bne_f e3 ?_
        conv => lhs; whnf
        refine iteK_bne_f e3 ?_
        conv => lhs; whnf
        refine iteK_bne_f e3 ?_
        conv => lhs; whnf
        refine nextK_of (aop_ix rfl rfl rfl rfl (ixL_at' hz a1 rfl)) ?_
        conv => lhs; whnf
        refine iteK_bne_f e3 ?_
        conv => lhs; whnf
        refine iteK_bne_f e3 ?_
        conv => lhs; whnf
        refine nextK_of (aop_ix rfl rfl rfl rfl (ixL_at' (n := g) rfl a4 rfl)) ?_
        conv => lhs; whnf
        refine iteK_bne_f e3 ?_
        conv => lhs; whnf
        refine iteK_bne_f e3 ?_
        conv => lhs; whnf
        refine iteK_bne_f e3 ?_
        conv => lhs; whnf
        refine iteK_bne_t hg0 ?_
        conv => lhs; whnf
        refine iteK_bne_f e3 ?_
        conv => lhs; whnf
        refine iteK_bne_t hg0 ?_
        conv => lhs; whnf
        refine iteK_bne_f hw ?_
        conv => lhs; whnf
        refine iteK_bne_f hw ?_
        conv => lhs; whnf
        refine iteK_bne_f hw ?_
        conv => lhs; whnf
        refine iteK_bne_f hw ?_
        conv => lhs; whnf
        refine nextK_of (aop_ix rfl rfl rfl rfl (ixL_at' hz a1 rfl)) ?_
        conv => lhs; whnf
        refine iteK_bne_f hw ?_
        conv => lhs; whnf
        refine iteK_bne_f hw ?_
        conv => lhs; whnf
        refine iteK_bne_f hw ?_
        conv => lhs; whnf
        refine iteK_beq_f hg0 ?_
        conv => lhs; whnf
        refine iteK_beq_f hg0 ?_
        conv => lhs; whnf
        refine iteK_beq_f hg0 ?_
        conv => lhs; whnf
        refine iteK_beq_f hg0 ?_
        conv => lhs; whnf
        refine iteK_beq_f hg0 ?_
        conv => lhs; whnf
        refine iteK_beq_f hg0 ?_
        conv => lhs; whnf
        refine iteK_bne_f hw ?_
        conv => lhs; whnf
        refine iteK_beq_f hg0 ?_
        conv => lhs; whnf
        refine iteK_bne_f hw ?_
        conv => lhs; whnf
        refine iteO_t (by kernel_rfl) ?_
        conv => lhs; whnf
        refine iteO_t (by kernel_rfl) ?_
        conv => lhs; whnf
        refine nextK_of (aop_ix rfl rfl rfl rfl (ixL_at' hz a3 rfl)) ?_
        conv => lhs; whnf
        refine iteO_t (by kernel_rfl) ?_
        conv => lhs; whnf
        refine iteK_not ?_
        conv => lhs; whnf
        refine iteK_beq (fun h1 => ?_) (fun h1 => ?_)
        · rw [beq_t h1]
          conv => lhs; whnf
          refine iteK_bne_t g4 ?_
          conv => lhs; whnf
          refine Eq.trans (hih lf _ (by omega) rfl) ?_
          rfl
        · rw [beq_f h1]
          conv => lhs; whnf
          refine Eq.trans (b := some (Fx.ret, St.mk [((2 : Nat), AV.d (D.bool false))] [])) (by kernel_rfl) ?_
          exact absurd (show ((0 : Int) != 0) = (p.kind == 4) by rw [beq_f g4]; rfl) h1
theorem law5_b (d : DefT) (ho : d.Ok) (hs : d.Sm) (k : Nat) (hk : d.wt + 6000 < k) (hl : decide (weightD d 600 ≤ 600) = true) (he : ofErr d = 0) : icall Try.prog cfg k 5 [d.av] [] = some (.ret (.d (.bool true)), []) := by
  obtain ⟨k, rfl⟩ : ∃ j, k = j + 1 := ⟨k - 1, by omega⟩
  have c1 := light12 d ho hs k (by omega)
  rw [hl] at c1
  have c2 := of10 d hs ho k (by omega)
  have h0 : checkD d = 0 := by
    by_cases h : checkD d = 0
    · exact h
    · rw [ofErr, if_neg h] at he; exact absurd he h
  obtain ⟨n1, n2, _⟩ := check_ok h0
  have hps := check_ps h0
  have B := walk_bal hps n2 (by rw [ofErr, if_pos h0] at he; exact he)
  rw [ofFork, ofDeep, ofJoin, if_pos he, if_pos he, if_pos he, he] at c2
  have hL := fun lf st => nestL k d.id d.places d.places.length n1 hps (walkW d.places) B rfl d.places.length 0 0 lf st (by omega) (by omega) rfl
  have hwp : d.places.length + 1 ≤ d.wt := by have := wtS_len (w := PlaceT.wt) d.places; unfold DefT.wt; omega
  obtain ⟨l1, l2, l3, l4, l5⟩ := B.len
  generalize walkW d.places = w at *
  rw [show shV w.fork w.deep w.join = .agg [.d (.list (iC w.fork)), .d (.list (iC w.deep)), .d (.list (iC w.join))] from rfl] at c2
  have z1 : ((iC w.fork).length : Int) = ((d.places.map PlaceT.cells).length : Int) := by rw [iC_len, List.length_map, l2]
  have z2 : ((iC w.deep).length : Int) = ((d.places.map PlaceT.cells).length : Int) := by rw [iC_len, List.length_map, l3]
  have z3 : ((iC w.join).length : Int) = ((d.places.map PlaceT.cells).length : Int) := by rw [iC_len, List.length_map, l4]
  show icall Try.prog cfg _ _ [.agg [.d (.str d.id), .d (.list (d.places.map PlaceT.cells))]] [] = _
  rw [icall_body rfl Try.func5]
  obtain ⟨lp, hlp⟩ : ∃ lp, lp = lpOf Try.prog cfg (icall Try.prog cfg k) Try.f5.ntmps 5 k (([] : Hp).map (·.1)) := ⟨_, rfl⟩
  rw [← hlp]
  rw [← (show lp = lpOf Try.prog cfg (icall Try.prog cfg k) Try.f5.ntmps 5 k (([] : Hp).map (·.1)) from hlp)] at hL
  conv => lhs; whnf
  refine nextK_of c1 ?_
  conv => lhs; whnf
  refine nextK_of c2 ?_
  conv => lhs; whnf
  refine iteK_bne_f z1 ?_
  conv => lhs; whnf
  refine iteK_bne_f z1 ?_
  conv => lhs; whnf
  refine iteK_bne_f z1 ?_
  conv => lhs; whnf
  refine iteK_bne_f z1 ?_
  conv => lhs; whnf
  refine iteK_bne_f z1 ?_
  conv => lhs; whnf
  refine iteK_bne_f z1 ?_
  conv => lhs; whnf
  refine iteK_bne_f z1 ?_
  conv => lhs; whnf
  refine iteK_bne_f z1 ?_
  conv => lhs; whnf
  refine iteK_bne_f z2 ?_
  conv => lhs; whnf
  refine iteK_bne_f z2 ?_
  conv => lhs; whnf
  refine iteK_bne_f z2 ?_
  conv => lhs; whnf
  refine iteK_bne_f z2 ?_
  conv => lhs; whnf
  refine iteK_bne_f z2 ?_
  conv => lhs; whnf
  refine iteK_bne_f z2 ?_
  conv => lhs; whnf
  refine iteK_bne_f z2 ?_
  conv => lhs; whnf
  refine iteK_bne_f z2 ?_
  conv => lhs; whnf
  refine iteK_bne_f z3 ?_
  conv => lhs; whnf
  refine nextK_of (loop_at hlp (hL k _ (by omega) rfl)) ?_
  conv => lhs; whnf
  refine nextK_of (works12 k (by omega)) ?_
  conv => lhs; whnf
  refine Eq.trans (b := some (Res.ret (AV.d (D.bool true)), [])) (by kernel_rfl) ?_
  rfl
theorem law5 (d : DefT) (ho : d.Ok) (hs : d.Sm) (k : Nat) (hk : d.wt + 6000 < k) : icall Try.prog cfg k 5 [d.av] [] = some (.ret (.d (.bool true)), []) := by
  by_cases hl : decide (weightD d 600 ≤ 600) = true
  · by_cases he : ofErr d = 0
    · exact law5_b d ho hs k hk hl he
    · exact law5_e d ho hs k hk hl he
  · exact law5_n d ho hs k hk (by simpa using hl)
end Go.Rx12
