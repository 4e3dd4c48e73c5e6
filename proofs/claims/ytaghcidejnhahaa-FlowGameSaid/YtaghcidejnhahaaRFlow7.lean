/- A part of the proof of the law: what functions of the program come to, walked by Rx, or plain facts on it. -/
import Derived.Test.YtaghcidejnhahaaRFlow3
import Derived.Test.YtaghcidejnhahaaRFlow4
import Derived.Test.YtaghcidejnhahaaRFlow6
import Derived.Test.YtaghcidejnhahaaRJ2
open Go Go.Rx Go.Proofs Go.Rx12 Go.RxTree
set_option maxRecDepth 1000000
set_option maxHeartbeats 4000000
set_option linter.unusedVariables false
set_option linter.unusedSimpArgs false
namespace Go.Rx12
theorem leave_all (id : List UInt8) (ps : List PlaceT) (n : Nat) (hn : n ≤ 4096) (hps : ps.length = n) (w : Wk) (hl : w.Len n) (i : Nat) (hi : i < n) (p : PlaceT) (hp : ps[i]? = some p) (ho : outsOk p.out n) (hol : p.out.length ≤ maxLen) (hmu : w.mu ≤ n)
    (hf : 0 ≤ getI w.fork i ∧ getI w.fork i < (n : Int)) (hd : -5000 ≤ getI w.deep i ∧ getI w.deep i ≤ 16) (k : Nat) (hk : p.out.length + 20 < k) :
    ∃ v, (v = 0 ∨ v = 1) ∧ icall Try.prog cfg k 29 [.ptr (.arg 0) 0, .d (.int .i64 (i : Int))] (wkW id (ps.map PlaceT.cells) n 0 w) = some (.ret (.tuple []), wkW id (ps.map PlaceT.cells) n v (leaveS p w i)) := by
  by_cases g8 : p.kind = 8
  · exact leave_8 id ps n hn hps w hl i hi p hp ho hol hmu hf hd g8 k hk
  · by_cases g4 : p.kind = 4
    · exact leave_4 id ps n hn hps w hl i hi p hp ho hol hmu hf hd g4 k hk
    · by_cases g5 : p.kind = 5
      · exact leave_5 id ps n hn hps w hl i hi p hp ho hol hmu hf hd g5 k hk
      · exact leave_o id ps n hn hps w hl i hi p hp ho hol hmu hf hd g8 g4 g5 k hk
/-- An own row's front is cut. -/
theorem aop_frontO {P : Program} {dst : Nat} {ρ : Operand → AV} {H : Hp} {t e e' : TypeId} {x lo : Operand} {o : Nm} {ver m s b : Nat} {k : IntKind} {z : Int} {es : List (List D)} (hx : ρ x = .own o ver (m + b)) (hh : ρ lo = .d (.int k z)) (ht : P.underlying t = some (.slice e)) (hs : sizeT P e = some s)
    (hg : H.get o = some (.arr e' s ver es)) (hz : z = (b : Int)) : aop P dst ρ H (.slice t x (some lo) none none) = some (.own o (ver + 1) m, (o, .arr e' s (ver + 1) (es.drop b)) :: H) := by
  have e1 : m + b - b = m := by omega
  simp only [aop, aSlice, Option.map_none, Option.map_some, intV, hh, Option.bind_some, ht, hx, Option.isNone_none, Option.isNone_some, Option.isSome_some, Bool.false_eq_true, false_and, and_self, if_true, if_false, hg, hs, true_and]
  rw [bnds_from hz (by omega)]
  simp only [Option.map_some, e1]
abbrev ofH (id : List UInt8) (pl : List (List D)) (n : Nat) (w : Wk) : Hp :=
  [(.slot 1, .cells [.d (.str id), .d (.list pl)]), (.slot 2, .cells [.nilsl, .nilsl, .nilsl]), (.slot 32, .cells [.d (.str id), .d (.list pl), .own (.slot 21) 0 n, .own (.slot 25) 0 n, .own (.slot 27) 0 n, .own (.slot 29) 0 n, .own (.slot 23) 0 n, .own (.cell (.slot 32) 7) 0 w.next.length, .d (.int .i64 w.err)]),
   (.slot 21, .arr 4 1 0 (bC w.met)), (.slot 25, .arr 3 1 0 (iC w.fork)), (.slot 27, .arr 3 1 0 (iC w.deep)), (.slot 29, .arr 3 1 0 (iC w.join)), (.slot 23, .arr 3 1 0 (iC w.up)), (.cell (.slot 32) 7, .arr 3 1 0 (iC w.next))]
abbrev ofSt (id : List UInt8) (pl : List (List D)) (n : Nat) (w : Wk) : St := ⟨[(1, .ptr (.slot 1) 0), (2, .ptr (.slot 2) 0), (6, .ptr (.slot 32) 0)], ofH id pl n w⟩
theorem ofL (j : Nat) (id : List UInt8) (ps : List PlaceT) (n : Nat) (hn : n ≤ 4096) (hps : ps.length = n) (hO : ∀ p ∈ ps, outsOk p.out n ∧ p.out.length ≤ maxLen ∧ p.out.length + 20 < j) {lp : LP} (hlp : lp = lpOf Try.prog cfg (icall Try.prog cfg j) Try.f10.ntmps 10 j (([] : Hp).map (·.1))) :
    ∀ (m b : Nat) (w : Wk) (lf : Nat) (st : St), w.mu = m → b + m ≤ n → w.Len n → w.Bd n b → w.err = 0 → m < lf → prune [] [1, 2, 6] st = some (ofSt id (ps.map PlaceT.cells) n w) →
      loopK Try.prog cfg (icall Try.prog cfg j) lp Try.f10.ntmps 10 [] (bodyAt Try.f10 7) lf st (exitP [] (some [1, 2, 6])) = some (.exit 0, ofSt id (ps.map PlaceT.cells) n (walkS ps m w)) := by
  intro m
  induction m with
  | zero =>
    intro b w lf st hm hb hl hbd he hlf hp
    obtain ⟨lf, rfl⟩ : ∃ n, lf = n + 1 := ⟨lf - 1, by omega⟩
    obtain ⟨me, fo, de, jo, up, nx, e⟩ := w
    have hnx : nx = [] := by
      have : nx.length = 0 := by have := hm; simp only [Wk.mu] at this; omega
      exact List.eq_nil_of_length_eq_zero this
    dsimp only at he; subst he
    rw [walkS_nil hnx]
    have hend : ¬ ((List.take nx.length (iC nx)).length : Int) > 0 := by rw [hnx]; simp
    refine loop_step hp ?_
    conv => lhs; whnf
    refine iteK_dec_f hend ?_
    conv => lhs; whnf
    refine Eq.trans (b := some (Fx.exit (0 : Nat), St.mk [((1 : Nat), AV.ptr (Nm.slot (1 : Nat)) (0 : Nat)), ((2 : Nat), AV.ptr (Nm.slot (2 : Nat)) (0 : Nat)), ((6 : Nat), AV.ptr (Nm.slot (32 : Nat)) (0 : Nat))] [(Nm.slot (1 : Nat), AObj.cells [AV.d (D.str id), AV.d (D.list (List.map PlaceT.cells ps))]), (Nm.slot (2 : Nat), AObj.cells [AV.nilsl, AV.nilsl, AV.nilsl]), (Nm.slot (32 : Nat), AObj.cells [AV.d (D.str id), AV.d (D.list (List.map PlaceT.cells ps)), AV.own (Nm.slot (21 : Nat)) (0 : Nat) n, AV.own (Nm.slot (25 : Nat)) (0 : Nat) n, AV.own (Nm.slot (27 : Nat)) (0 : Nat) n, AV.own (Nm.slot (29 : Nat)) (0 : Nat) n, AV.own (Nm.slot (23 : Nat)) (0 : Nat) n, AV.own (Nm.cell (Nm.slot (32 : Nat)) (7 : Nat)) (0 : Nat) (List.length (Wk.mk me fo de jo up nx (0 : Int)).next), AV.d (D.int IntKind.i64 (Wk.mk me fo de jo up nx (0 : Int)).err)]), (Nm.slot (21 : Nat), AObj.arr (4 : Nat) (1 : Nat) (0 : Nat) (bC (Wk.mk me fo de jo up nx (0 : Int)).met)), (Nm.slot (25 : Nat), AObj.arr (3 : Nat) (1 : Nat) (0 : Nat) (iC (Wk.mk me fo de jo up nx (0 : Int)).fork)), (Nm.slot (27 : Nat), AObj.arr (3 : Nat) (1 : Nat) (0 : Nat) (iC (Wk.mk me fo de jo up nx (0 : Int)).deep)), (Nm.slot (29 : Nat), AObj.arr (3 : Nat) (1 : Nat) (0 : Nat) (iC (Wk.mk me fo de jo up nx (0 : Int)).join)), (Nm.slot (23 : Nat), AObj.arr (3 : Nat) (1 : Nat) (0 : Nat) (iC (Wk.mk me fo de jo up nx (0 : Int)).up)), (Nm.cell (Nm.slot (32 : Nat)) (7 : Nat), AObj.arr (3 : Nat) (1 : Nat) (0 : Nat) (iC (Wk.mk me fo de jo up nx (0 : Int)).next))])) (by kernel_rfl) ?_
    rfl
  | succ m ihm =>
    intro b w lf st hm hb hl hbd he hlf hp
    obtain ⟨lf, rfl⟩ : ∃ n, lf = n + 1 := ⟨lf - 1, by omega⟩
    obtain ⟨me, fo, de, jo, up, nx, e⟩ := w
    dsimp only at he; subst he
    by_cases hnx : nx = []
    · rw [walkS_nil hnx]
      have hend : ¬ ((List.take nx.length (iC nx)).length : Int) > 0 := by rw [hnx]; simp
      refine loop_step hp ?_
      conv => lhs; whnf
      refine iteK_dec_f hend ?_
      conv => lhs; whnf
      refine Eq.trans (b := some (Fx.exit (0 : Nat), St.mk [((1 : Nat), AV.ptr (Nm.slot (1 : Nat)) (0 : Nat)), ((2 : Nat), AV.ptr (Nm.slot (2 : Nat)) (0 : Nat)), ((6 : Nat), AV.ptr (Nm.slot (32 : Nat)) (0 : Nat))] [(Nm.slot (1 : Nat), AObj.cells [AV.d (D.str id), AV.d (D.list (List.map PlaceT.cells ps))]), (Nm.slot (2 : Nat), AObj.cells [AV.nilsl, AV.nilsl, AV.nilsl]), (Nm.slot (32 : Nat), AObj.cells [AV.d (D.str id), AV.d (D.list (List.map PlaceT.cells ps)), AV.own (Nm.slot (21 : Nat)) (0 : Nat) n, AV.own (Nm.slot (25 : Nat)) (0 : Nat) n, AV.own (Nm.slot (27 : Nat)) (0 : Nat) n, AV.own (Nm.slot (29 : Nat)) (0 : Nat) n, AV.own (Nm.slot (23 : Nat)) (0 : Nat) n, AV.own (Nm.cell (Nm.slot (32 : Nat)) (7 : Nat)) (0 : Nat) (List.length (Wk.mk me fo de jo up nx (0 : Int)).next), AV.d (D.int IntKind.i64 (Wk.mk me fo de jo up nx (0 : Int)).err)]), (Nm.slot (21 : Nat), AObj.arr (4 : Nat) (1 : Nat) (0 : Nat) (bC (Wk.mk me fo de jo up nx (0 : Int)).met)), (Nm.slot (25 : Nat), AObj.arr (3 : Nat) (1 : Nat) (0 : Nat) (iC (Wk.mk me fo de jo up nx (0 : Int)).fork)), (Nm.slot (27 : Nat), AObj.arr (3 : Nat) (1 : Nat) (0 : Nat) (iC (Wk.mk me fo de jo up nx (0 : Int)).deep)), (Nm.slot (29 : Nat), AObj.arr (3 : Nat) (1 : Nat) (0 : Nat) (iC (Wk.mk me fo de jo up nx (0 : Int)).join)), (Nm.slot (23 : Nat), AObj.arr (3 : Nat) (1 : Nat) (0 : Nat) (iC (Wk.mk me fo de jo up nx (0 : Int)).up)), (Nm.cell (Nm.slot (32 : Nat)) (7 : Nat), AObj.arr (3 : Nat) (1 : Nat) (0 : Nat) (iC (Wk.mk me fo de jo up nx (0 : Int)).next))])) (by kernel_rfl) ?_
      rfl
    · obtain ⟨a, r, rfl⟩ := List.exists_cons_of_ne_nil hnx
      have ha := hbd.next a (by simp)
      have hend : ((List.take (a :: r).length (iC (a :: r))).length : Int) > 0 := by simp [iC]
      obtain ⟨i, rfl⟩ : ∃ i : Nat, a = (i : Int) := ⟨a.toNat, by omega⟩
      have hpi : ps[i]? = some ps[i] := List.getElem?_eq_getElem (by omega)
      rw [walkS, if_neg (by simp), show stepS ps ⟨me, fo, de, jo, up, (i : Int) :: r, 0⟩ = leaveS ps[i] ⟨me, fo, de, jo, up, r, 0⟩ i by simp only [stepS, Int.toNat_natCast, hpi]]
      generalize ps[i] = p at *
      obtain ⟨o1, o2, o3⟩ := hO p (List.mem_of_getElem? hpi)
      have hl1 : Wk.Len ⟨me, fo, de, jo, up, r, 0⟩ n := hl
      have hb1 : Wk.Bd ⟨me, fo, de, jo, up, r, 0⟩ n b := ⟨fun z hz => hbd.next z (by simp [hz]), hbd.fork, hbd.up, hbd.deep⟩
      have hm1 : Wk.mu ⟨me, fo, de, jo, up, r, 0⟩ = m := by have := hm; simp only [Wk.mu, List.length_cons] at this ⊢; omega
      obtain ⟨l1, l2, l3, l4, l5⟩ := hl1
      have hfi := getI_mem hb1.fork (i := i) (by omega)
      have hdi := getI_mem (P := fun z => -(b : Int) ≤ z ∧ z ≤ 16) hb1.deep (i := i) (by omega)
      have hl1 : Wk.Len ⟨me, fo, de, jo, up, r, 0⟩ n := ⟨l1, l2, l3, l4, l5⟩
      obtain ⟨v, hv, hc⟩ := leave_all id ps n hn hps ⟨me, fo, de, jo, up, r, 0⟩ hl1 i (by omega) p hpi o1 o2 (by omega) hfi (by omega) j o3
      have hl2 := leave_len (i := i) hl1 o1
      have hb2 := leave_bd (i := i) hl1 hb1 (by omega) o1
      generalize leaveS p ⟨me, fo, de, jo, up, r, 0⟩ i = w1 at *
      by_cases he : w1.err = 0
      · have hih := fun lf st => ihm (b + 1) w1 lf st (by rw [hl2.2, hm1]) (by omega) hl2.1 hb2 he
        generalize walkS ps m w1 = w2 at *
        obtain ⟨me1, fo1, de1, jo1, up1, nx1, e1⟩ := w1
        dsimp only at he; subst he
        refine loop_step hp ?_
        rcases hv with rfl | rfl
        · conv => lhs; whnf
          refine iteK_dec_t hend ?_
          conv => lhs; whnf
          refine nextK_of (aop_ixO (i := 0) rfl rfl rfl rfl rfl rfl (by simp)) ?_
          conv => lhs; whnf
          refine nextK_of (aop_frontO (m := r.length) (b := 1) rfl rfl rfl rfl rfl rfl) ?_
          conv => lhs; whnf
          refine nextK_of hc ?_
          conv => lhs; whnf
          refine Eq.trans (hih lf _ (by omega) rfl) ?_
          rfl
        · conv => lhs; whnf
          refine iteK_dec_t hend ?_
          conv => lhs; whnf
          refine nextK_of (aop_ixO (i := 0) rfl rfl rfl rfl rfl rfl (by simp)) ?_
          conv => lhs; whnf
          refine nextK_of (aop_frontO (m := r.length) (b := 1) rfl rfl rfl rfl rfl rfl) ?_
          conv => lhs; whnf
          refine nextK_of hc ?_
          conv => lhs; whnf
          refine Eq.trans (hih lf _ (by omega) rfl) ?_
          rfl
      · rw [walkS_err he]
        obtain ⟨me1, fo1, de1, jo1, up1, nx1, e1⟩ := w1
        dsimp only at he
        refine loop_step hp ?_
        rcases hv with rfl | rfl
        · conv => lhs; whnf
          refine iteK_dec_t hend ?_
          conv => lhs; whnf
          refine nextK_of (aop_ixO (i := 0) rfl rfl rfl rfl rfl rfl (by simp)) ?_
          conv => lhs; whnf
          refine nextK_of (aop_frontO (m := r.length) (b := 1) rfl rfl rfl rfl rfl rfl) ?_
          conv => lhs; whnf
          refine nextK_of hc ?_
          conv => lhs; whnf
          refine iteK_bne_t he ?_
          conv => lhs; whnf
          refine Eq.trans (b := some (Fx.exit (0 : Nat), St.mk [((1 : Nat), AV.ptr (Nm.slot (1 : Nat)) (0 : Nat)), ((2 : Nat), AV.ptr (Nm.slot (2 : Nat)) (0 : Nat)), ((6 : Nat), AV.ptr (Nm.slot (32 : Nat)) (0 : Nat))] [(Nm.slot (1 : Nat), AObj.cells [AV.d (D.str id), AV.d (D.list (List.map PlaceT.cells ps))]), (Nm.slot (2 : Nat), AObj.cells [AV.nilsl, AV.nilsl, AV.nilsl]), (Nm.slot (32 : Nat), AObj.cells [AV.d (D.str id), AV.d (D.list (List.map PlaceT.cells ps)), AV.own (Nm.slot (21 : Nat)) (0 : Nat) n, AV.own (Nm.slot (25 : Nat)) (0 : Nat) n, AV.own (Nm.slot (27 : Nat)) (0 : Nat) n, AV.own (Nm.slot (29 : Nat)) (0 : Nat) n, AV.own (Nm.slot (23 : Nat)) (0 : Nat) n, AV.own (Nm.cell (Nm.slot (32 : Nat)) (7 : Nat)) (0 : Nat) (List.length (Wk.mk me1 fo1 de1 jo1 up1 nx1 e1).next), AV.d (D.int IntKind.i64 (Wk.mk me1 fo1 de1 jo1 up1 nx1 e1).err)]), (Nm.slot (21 : Nat), AObj.arr (4 : Nat) (1 : Nat) (0 : Nat) (bC (Wk.mk me1 fo1 de1 jo1 up1 nx1 e1).met)), (Nm.slot (25 : Nat), AObj.arr (3 : Nat) (1 : Nat) (0 : Nat) (iC (Wk.mk me1 fo1 de1 jo1 up1 nx1 e1).fork)), (Nm.slot (27 : Nat), AObj.arr (3 : Nat) (1 : Nat) (0 : Nat) (iC (Wk.mk me1 fo1 de1 jo1 up1 nx1 e1).deep)), (Nm.slot (29 : Nat), AObj.arr (3 : Nat) (1 : Nat) (0 : Nat) (iC (Wk.mk me1 fo1 de1 jo1 up1 nx1 e1).join)), (Nm.slot (23 : Nat), AObj.arr (3 : Nat) (1 : Nat) (0 : Nat) (iC (Wk.mk me1 fo1 de1 jo1 up1 nx1 e1).up)), (Nm.cell (Nm.slot (32 : Nat)) (7 : Nat), AObj.arr (3 : Nat) (1 : Nat) (0 : Nat) (iC (Wk.mk me1 fo1 de1 jo1 up1 nx1 e1).next))])) (by kernel_rfl) ?_
          rfl
        · conv => lhs; whnf
          refine iteK_dec_t hend ?_
          conv => lhs; whnf
          refine nextK_of (aop_ixO (i := 0) rfl rfl rfl rfl rfl rfl (by simp)) ?_
          conv => lhs; whnf
          refine nextK_of (aop_frontO (m := r.length) (b := 1) rfl rfl rfl rfl rfl rfl) ?_
          conv => lhs; whnf
          refine nextK_of hc ?_
          conv => lhs; whnf
          refine iteK_bne_t he ?_
          conv => lhs; whnf
          refine Eq.trans (b := some (Fx.exit (0 : Nat), St.mk [((1 : Nat), AV.ptr (Nm.slot (1 : Nat)) (0 : Nat)), ((2 : Nat), AV.ptr (Nm.slot (2 : Nat)) (0 : Nat)), ((6 : Nat), AV.ptr (Nm.slot (32 : Nat)) (0 : Nat))] [(Nm.slot (1 : Nat), AObj.cells [AV.d (D.str id), AV.d (D.list (List.map PlaceT.cells ps))]), (Nm.slot (2 : Nat), AObj.cells [AV.nilsl, AV.nilsl, AV.nilsl]), (Nm.slot (32 : Nat), AObj.cells [AV.d (D.str id), AV.d (D.list (List.map PlaceT.cells ps)), AV.own (Nm.slot (21 : Nat)) (0 : Nat) n, AV.own (Nm.slot (25 : Nat)) (0 : Nat) n, AV.own (Nm.slot (27 : Nat)) (0 : Nat) n, AV.own (Nm.slot (29 : Nat)) (0 : Nat) n, AV.own (Nm.slot (23 : Nat)) (0 : Nat) n, AV.own (Nm.cell (Nm.slot (32 : Nat)) (7 : Nat)) (0 : Nat) (List.length (Wk.mk me1 fo1 de1 jo1 up1 nx1 e1).next), AV.d (D.int IntKind.i64 (Wk.mk me1 fo1 de1 jo1 up1 nx1 e1).err)]), (Nm.slot (21 : Nat), AObj.arr (4 : Nat) (1 : Nat) (0 : Nat) (bC (Wk.mk me1 fo1 de1 jo1 up1 nx1 e1).met)), (Nm.slot (25 : Nat), AObj.arr (3 : Nat) (1 : Nat) (0 : Nat) (iC (Wk.mk me1 fo1 de1 jo1 up1 nx1 e1).fork)), (Nm.slot (27 : Nat), AObj.arr (3 : Nat) (1 : Nat) (0 : Nat) (iC (Wk.mk me1 fo1 de1 jo1 up1 nx1 e1).deep)), (Nm.slot (29 : Nat), AObj.arr (3 : Nat) (1 : Nat) (0 : Nat) (iC (Wk.mk me1 fo1 de1 jo1 up1 nx1 e1).join)), (Nm.slot (23 : Nat), AObj.arr (3 : Nat) (1 : Nat) (0 : Nat) (iC (Wk.mk me1 fo1 de1 jo1 up1 nx1 e1).up)), (Nm.cell (Nm.slot (32 : Nat)) (7 : Nat), AObj.arr (3 : Nat) (1 : Nat) (0 : Nat) (iC (Wk.mk me1 fo1 de1 jo1 up1 nx1 e1).next))])) (by kernel_rfl) ?_
          rfl
end Go.Rx12
