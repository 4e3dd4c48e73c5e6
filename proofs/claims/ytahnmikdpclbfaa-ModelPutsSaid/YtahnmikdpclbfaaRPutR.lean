/- A part of the proof of the law: what functions of the program come to, walked by Rx, or plain facts on it. -/
import Derived.Test.YtahnmikdpclbfaaRPutM
open Go Go.Rx Go.Proofs Go.Rx11 Go.RxTree
set_option maxRecDepth 1000000
set_option maxHeartbeats 4000000
set_option linter.unusedVariables false
set_option linter.unusedSimpArgs false
namespace Go.Rx11
/-- A row's rows, taken whole. -/
abbrev tk (s : List UInt8) : List (List D) := (bL s).take (bL s).length
theorem tk_eq (s : List UInt8) : tk s = bL s := List.take_length
theorem tk_all (s : List UInt8) : (tk s).all (fun y => y.length == 1) = true := by rw [tk_eq]; exact bL_all _
theorem tk_len (s : List UInt8) : (tk s).length = s.length := by rw [tk_eq, bL_len]
abbrev exP (p : PlaceT) : Nm × AObj := (.slot 7, .cells [.d (.int .i64 p.kind), .d (.str p.name), .d (.int .i64 p.n), .d (.list (cellsL p.arg)), .d (.list (p.out.map FlowT.cells))])
abbrev exDf (d : DefT) : Nm × AObj := (.slot 1, .cells [.d (.str d.id), .d (.list (d.places.map PlaceT.cells))])
theorem pr23F (j : Nat) (n0 : Int) (hn0 : n0 ≤ 4096) (d : DefT) (c6 : Int) (p : PlaceT) (hm : p.out.length ≤ maxLen) (gd : ∀ f ∈ p.out, GoodF n0 f) (ok : ∀ f ∈ p.out, f.Ok) (es0 : List (List D)) (hall : es0.length + (flowsB p.out).length + 3000000 ≤ 50000000000000) (hj : ∀ f ∈ p.out, wtL f.iff + 60 < j) (hj0 : 60 < j) {lp : LP} (hlp : lp = lpOf Try.prog cfg (icall Try.prog cfg j) Try.f23.ntmps 23 j (([] : Hp).map (·.1))) :
    ∀ (m i : Nat) (z : Int) (n : Nat) (es : List (List D)) (lf : Nat) (st : St), (p.out).length - i = m → i ≤ (p.out).length → z = (i : Int) → es.length = n → es = es0 ++ bL (flowsB (p.out.take i)) → m < lf → prune [] [1, 5, 6, 7, 8] st = some ⟨[(1, .ptr (.slot 1) 0), (5, .own (Nm.cell (Nm.res 17) 0) 0 n), (6, .d (.int .i64 c6)), (7, .ptr (.slot 7) 0), (8, .d (.int .i64 z))], [exDf d, arrB (Nm.cell (Nm.res 17) 0) 0 es, exP p]⟩ →
      loopK Try.prog cfg (icall Try.prog cfg j) lp Try.f23.ntmps 23 [] (bodyAt Try.f23 16) lf st (exitP [] (some [1, 5, 6])) = some (.exit 2, ⟨[(1, .ptr (.slot 1) 0), (5, .own (Nm.cell (Nm.res 17) 0) 0 (es0 ++ bL (flowsB p.out)).length), (6, .d (.int .i64 c6))], [exDf d, arrB (Nm.cell (Nm.res 17) 0) 0 (es0 ++ bL (flowsB p.out))]⟩) := by
  intro m
  induction m with
  | zero =>
    intro i z n es lf st hi hle hz hn hes hlf hp
    obtain ⟨lf, rfl⟩ : ∃ n, lf = n + 1 := ⟨lf - 1, by omega⟩
    refine loop_step hp ?_
    have hend : ¬ z < ((p.out.map FlowT.cells).length : Int) := by rw [List.length_map]; omega
    obtain rfl : i = p.out.length := by omega
    rw [List.take_length] at hes
    subst hn
    subst hes
    conv => lhs; whnf
    refine iteK_dec_f hend ?_
    conv => lhs; whnf
    refine Eq.trans (b := some (Fx.exit (2 : Nat), St.mk [((1 : Nat), AV.ptr (Nm.slot (1 : Nat)) (0 : Nat)), ((5 : Nat), AV.own (Nm.cell (Nm.res (17 : Nat)) (0 : Nat)) (nat_lit 0) (List.length (List.append es0 (bL (flowsB p.out))))), ((6 : Nat), AV.d (D.int IntKind.i64 c6))] [(Nm.slot (1 : Nat), AObj.cells [AV.d (D.str d.id), AV.d (D.list (List.map PlaceT.cells d.places))]), (Nm.cell (Nm.res (17 : Nat)) (0 : Nat), AObj.arr (5 : Nat) (1 : Nat) (nat_lit 0) (List.append es0 (bL (flowsB p.out))))])) (by kernel_rfl) ?_
    rfl
  | succ m ihm =>
    intro i z n es lf st hi hle hz hn hes hlf hp
    obtain ⟨lf, rfl⟩ : ∃ n, lf = n + 1 := ⟨lf - 1, by omega⟩
    refine loop_step hp ?_
    have hend : z < ((p.out.map FlowT.cells).length : Int) := by rw [List.length_map]; omega
    have hx : p.out[i]? = some p.out[i] := List.getElem?_eq_getElem (by omega)
    generalize p.out[i] = f at hx
    have hxm := List.mem_of_getElem? hx
    have hle := flat_le (g := flowB) hx
    have hel : es.length = es0.length + ((p.out.take i).flatMap flowB).length := by rw [hes, List.length_append, bL_len]; rfl
    have gf := gd f hxm
    have hfl : (flowB f).length = (uintB f.to.toNat).length + (maybeB f.iff).length := by unfold flowB; rw [List.length_append]
    have hall' : es0.length + (p.out.flatMap flowB).length + 3000000 ≤ 50000000000000 := hall
    have hc1 := uint47 f.to.toNat (by have := gf.to; omega) j (by omega)
    rw [← natW (z := f.to) (by have := gf.to; omega) (by have := gf.to; omega)] at hc1
    have hc2 := maybe48 f.iff gf.iff.1 gf.iff.2 (ok f hxm).2.2 j (by have := hj f hxm; omega)
    have k1 := tk_len (uintB f.to.toNat)
    have hb1 : n + (tk (uintB f.to.toNat)).length ≤ 50000000000000 := by omega
    have hb2 : n + (tk (uintB f.to.toNat)).length + (bL (maybeB f.iff)).length ≤ 50000000000000 := by rw [bL_len]; omega
    have hnl : ((es.take n ++ tk (uintB f.to.toNat)).take (n + (tk (uintB f.to.toNat)).length) ++ bL (maybeB f.iff)).length = n + (tk (uintB f.to.toNat)).length + (bL (maybeB f.iff)).length := by
      rw [List.take_of_length_le (i := n) (by omega), List.take_of_length_le (by rw [List.length_append]; omega), List.length_append, List.length_append]; omega
    have hnx : (es.take n ++ tk (uintB f.to.toNat)).take (n + (tk (uintB f.to.toNat)).length) ++ bL (maybeB f.iff) = es0 ++ bL (flowsB (p.out.take (i + 1))) := by
      have e : flowsB (p.out.take (i + 1)) = flowsB (p.out.take i) ++ flowB f := flat_take hx
      rw [List.take_of_length_le (i := n) (by omega), List.take_of_length_le (by rw [List.length_append]; omega), e, ← bL_app, ← List.append_assoc, ← hes, flowB, ← bL_app, List.append_assoc, tk_eq]
    conv => lhs; whnf
    refine iteK_dec_t hend ?_
    conv => lhs; whnf
    refine nextK_of (aop_ix rfl rfl rfl rfl (ixL_at' hz (flow_get hx) rfl)) ?_
    conv => lhs; whnf
    refine nextK_of hc1 ?_
    conv => lhs; whnf
    refine nextK_of (aop_app rfl rfl rfl rfl rfl rfl rfl rfl rfl (tk_all _) rfl rfl (lenB2 hb1)) ?_
    conv => lhs; whnf
    refine nextK_of (aop_ix rfl rfl rfl rfl (ixL_at' hz (flow_get hx) rfl)) ?_
    conv => lhs; whnf
    refine nextK_of hc2 ?_
    conv => lhs; whnf
    refine nextK_of (aop_app rfl rfl rfl rfl rfl rfl rfl rfl rfl (bL_all _) rfl rfl (lenB2 hb2)) ?_
    conv => lhs; whnf
    refine Eq.trans (ihm (i + 1) _ _ _ lf _ (by omega) (by omega) (wrap_up hz (by omega)) hnl hnx (by omega) rfl) ?_
    rfl
end Go.Rx11
