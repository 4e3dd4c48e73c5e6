/- A part of the proof of the law: what functions of the program come to, walked by Rx, or plain facts on it. -/
import Derived.Test.YtahnmikdpclbfaaRMaybe
import Derived.Test.YtahnmikdpclbfaaRFlows
open Go Go.Rx Go.Proofs Go.Rx11 Go.RxTree
set_option maxRecDepth 1000000
set_option maxHeartbeats 4000000
set_option linter.unusedVariables false
set_option linter.unusedSimpArgs false
namespace Go.Rx11
theorem natW {z : Int} (h0 : 0 ≤ z) (h1 : z ≤ 9223372036854775807) : IntKind.u64.wrap z = ((z.toNat : Nat) : Int) := by rw [Go.Rx.wrap_u64 h0 (by omega)]; omega
theorem goodL_ok {l : List T} (h : GoodL l) : ∀ x ∈ l, checkT x 1 = 0 := h.2
theorem maybe_le {l : List T} : (exprL l).length ≤ (maybeB l).length := by unfold maybeB; simp
theorem pd22F (j : Nat) (n0 : Int) (hn0 : n0 ≤ 4096) (cs : List (List D)) (c7 c8 : Int) (l : List FlowT) (hm : l.length ≤ maxLen) (gd : ∀ f ∈ l, GoodF n0 f) (ok : ∀ f ∈ l, f.Ok) (es0 : List (List D)) (hall : es0.length + (flowsB l).length + 3000000 ≤ 50000000000000) (hj : ∀ f ∈ l, wtL f.iff + 60 < j) (hj0 : 60 < j) {lp : LP} (hlp : lp = lpOf Try.prog cfg (icall Try.prog cfg j) Try.f22.ntmps 22 j (([] : Hp).map (·.1))) :
    ∀ (m i : Nat) (z : Int) (n : Nat) (es : List (List D)) (lf : Nat) (st : St), (l).length - i = m → i ≤ (l).length → z = (i : Int) → es.length = n → es = es0 ++ bL (flowsB (l.take i)) → m < lf → prune [] [5, 26, 27, 28, 59, 60, 61] st = some ⟨[(5, .own (Nm.cell (Nm.res 18) 0) 0 n), (26, .d (.list cs)), (27, .d (.int .i64 c7)), (28, .d (.int .i64 c8)), (59, .d (.list (l.map FlowT.cells))), (60, .d (.int .i64 (l.map FlowT.cells).length)), (61, .d (.int .i64 z))], [arrB (Nm.cell (Nm.res 18) 0) 0 es]⟩ →
      loopK Try.prog cfg (icall Try.prog cfg j) lp Try.f22.ntmps 22 [] (bodyAt Try.f22 15) lf st (exitP [] (some [5, 26, 27, 28])) = some (.exit 2, ⟨[(5, .own (Nm.cell (Nm.res 18) 0) 0 (es0 ++ bL (flowsB l)).length), (26, .d (.list cs)), (27, .d (.int .i64 c7)), (28, .d (.int .i64 c8))], [arrB (Nm.cell (Nm.res 18) 0) 0 (es0 ++ bL (flowsB l))]⟩) := by
  intro m
  induction m with
  | zero =>
    intro i z n es lf st hi hle hz hn hes hlf hp
    obtain ⟨lf, rfl⟩ : ∃ n, lf = n + 1 := ⟨lf - 1, by omega⟩
    refine loop_step hp ?_
    have hend : ¬ z < ((l.map FlowT.cells).length : Int) := by rw [List.length_map]; omega
    obtain rfl : i = l.length := by omega
    rw [List.take_length] at hes
    subst hn
    subst hes
    conv => lhs; whnf
    refine iteK_dec_f hend ?_
    conv => lhs; whnf
    refine Eq.trans (b := some (Fx.exit (2 : Nat), St.mk [((5 : Nat), AV.own (Nm.cell (Nm.res (18 : Nat)) (0 : Nat)) (nat_lit 0) (List.length (List.append es0 (bL (flowsB l))))), ((26 : Nat), AV.d (D.list cs)), ((27 : Nat), AV.d (D.int IntKind.i64 c7)), ((28 : Nat), AV.d (D.int IntKind.i64 c8))] [(Nm.cell (Nm.res (18 : Nat)) (0 : Nat), AObj.arr (5 : Nat) (1 : Nat) (nat_lit 0) (List.append es0 (bL (flowsB l))))])) (by kernel_rfl) ?_
    rfl
  | succ m ihm =>
    intro i z n es lf st hi hle hz hn hes hlf hp
    obtain ⟨lf, rfl⟩ : ∃ n, lf = n + 1 := ⟨lf - 1, by omega⟩
    refine loop_step hp ?_
    have hend : z < ((l.map FlowT.cells).length : Int) := by rw [List.length_map]; omega
    have hx : l[i]? = some l[i] := List.getElem?_eq_getElem (by omega)
    generalize l[i] = f at hx
    have hxm := List.mem_of_getElem? hx
    have hle := flat_le (g := flowB) hx
    have hel : es.length = es0.length + (flowsB (l.take i)).length := by rw [hes, List.length_append, bL_len]
    have gf := gd f hxm
    have hfl : (flowB f).length = (uintB f.to.toNat).length + (maybeB f.iff).length := by unfold flowB; rw [List.length_append]
    have hml := maybe_le (l := f.iff)
    have hu10 := uintB_len10 (n := f.to.toNat) (by have := gf.to; omega)
    have hall' : es0.length + (l.flatMap flowB).length + 3000000 ≤ 50000000000000 := hall
    have hel' : es.length = es0.length + ((l.take i).flatMap flowB).length := hel
    have hc1 := uint45 f.to.toNat (by have := gf.to; omega) n es hn (by omega) j (by omega)
    rw [← natW (z := f.to) (by have := gf.to; omega) (by have := gf.to; omega)] at hc1
    have hl2 : (es ++ bL (uintB f.to.toNat)).length = n + (uintB f.to.toNat).length := by rw [List.length_append, bL_len, hn]
    have hc2 := maybe46 f.iff gf.iff.1 gf.iff.2 (ok f hxm).2.2 (es ++ bL (uintB f.to.toNat)).length (es ++ bL (uintB f.to.toNat)) rfl (by omega) j (by have := hj f hxm; omega)
    have hnx : (es ++ bL (uintB f.to.toNat)) ++ bL (maybeB f.iff) = es0 ++ bL (flowsB (l.take (i + 1))) := by
      have e : flowsB (l.take (i + 1)) = flowsB (l.take i) ++ flowB f := flat_take hx
      rw [e, ← bL_app, ← List.append_assoc, ← hes, flowB, ← bL_app, List.append_assoc]
    conv => lhs; whnf
    refine iteK_dec_t hend ?_
    conv => lhs; whnf
    refine nextK_of (aop_ix rfl rfl rfl rfl (ixL_at' hz (flow_get hx) rfl)) ?_
    conv => lhs; whnf
    refine nextK_of hc1 ?_
    conv => lhs; whnf
    refine nextK_of hc2 ?_
    conv => lhs; whnf
    refine Eq.trans (ihm (i + 1) _ _ _ lf _ (by omega) (by omega) (wrap_up hz (by omega)) rfl hnx (by omega) rfl) ?_
    rfl
theorem pd22P (j : Nat) (n0 : Int) (hn0 : n0 ≤ 4096) (l : List PlaceT) (hm : l.length ≤ maxLen) (gd : ∀ p ∈ l, GoodP n0 p) (ok : ∀ p ∈ l, p.Ok) (es0 : List (List D)) (hall : es0.length + (placesB l).length + 4000000 ≤ 50000000000000) (hj : ∀ p ∈ l, p.wt + 80 < j) {lp : LP} (hlp : lp = lpOf Try.prog cfg (icall Try.prog cfg j) Try.f22.ntmps 22 j (([] : Hp).map (·.1))) :
    ∀ (m i : Nat) (z : Int) (n : Nat) (es : List (List D)) (lf : Nat) (st : St), (l).length - i = m → i ≤ (l).length → z = (i : Int) → es.length = n → es = es0 ++ bL (placesB (l.take i)) → m < lf → prune [] [5, 26, 27, 28] st = some ⟨[(5, .own (Nm.cell (Nm.res 18) 0) 0 n), (26, .d (.list (l.map PlaceT.cells))), (27, .d (.int .i64 (l.map PlaceT.cells).length)), (28, .d (.int .i64 z))], [arrB (Nm.cell (Nm.res 18) 0) 0 es]⟩ →
      loopK Try.prog cfg (icall Try.prog cfg j) lp Try.f22.ntmps 22 [] (bodyAt Try.f22 7) lf st (exitP [] (some [5])) = some (.exit 0, ⟨[(5, .own (Nm.cell (Nm.res 18) 0) 0 (es0 ++ bL (placesB l)).length)], [arrB (Nm.cell (Nm.res 18) 0) 0 (es0 ++ bL (placesB l))]⟩) := by
  intro m
  induction m with
  | zero =>
    intro i z n es lf st hi hle hz hn hes hlf hp
    obtain ⟨lf, rfl⟩ : ∃ n, lf = n + 1 := ⟨lf - 1, by omega⟩
    refine loop_step hp ?_
    have hend : ¬ z < ((l.map PlaceT.cells).length : Int) := by rw [List.length_map]; omega
    obtain rfl : i = l.length := by omega
    rw [List.take_length] at hes
    subst hn
    subst hes
    conv => lhs; whnf
    refine iteK_dec_f hend ?_
    conv => lhs; whnf
    refine Eq.trans (b := some (Fx.exit (0 : Nat), St.mk [((5 : Nat), AV.own (Nm.cell (Nm.res (18 : Nat)) (0 : Nat)) (nat_lit 0) (List.length (List.append es0 (bL (placesB l)))))] [(Nm.cell (Nm.res (18 : Nat)) (0 : Nat), AObj.arr (5 : Nat) (1 : Nat) (nat_lit 0) (List.append es0 (bL (placesB l))))])) (by kernel_rfl) ?_
    rfl
  | succ m ihm =>
    intro i z n es lf st hi hle hz hn hes hlf hp
    obtain ⟨lf, rfl⟩ : ∃ n, lf = n + 1 := ⟨lf - 1, by omega⟩
    refine loop_step hp ?_
    have hend : z < ((l.map PlaceT.cells).length : Int) := by rw [List.length_map]; omega
    have hx : l[i]? = some l[i] := List.getElem?_eq_getElem (by omega)
    generalize l[i] = p at hx
    have hxm := List.mem_of_getElem? hx
    have hle := flat_le (g := placeB) hx
    have hel : es.length = es0.length + ((l.take i).flatMap placeB).length := by rw [hes, List.length_append, bL_len]; rfl
    have hall' : es0.length + (l.flatMap placeB).length + 4000000 ≤ 50000000000000 := hall
    obtain ⟨o1, o2, o3, o4, o5, o6, o7⟩ := ok p hxm
    have gp := gd p hxm
    obtain ⟨g1, g2, g3, g4, g5, g6⟩ := gp
    have hjp := hj p hxm
    unfold PlaceT.wt at hjp
    have hwo := wtS_len (w := FlowT.wt) p.out
    have hpl : (placeB p).length = 1 + ((bytesB p.name).length + ((uintB p.n.toNat).length + ((maybeB p.arg).length + ((uintB p.out.length).length + (flowsB p.out).length)))) := by unfold placeB; simp only [List.length_cons, List.length_append]; omega
    have hml := maybe_le (l := p.arg)
    have hby : IntKind.u8.wrap p.kind = ((UInt8.ofNat p.kind.toNat).toNat : Int) := byteK (by omega)
    obtain ⟨es1, he1⟩ : ∃ es1, es1 = es.take n ++ [[D.int .u8 (IntKind.u8.wrap p.kind)]] := ⟨_, rfl⟩
    have hq1 : es1 = es ++ bL [UInt8.ofNat p.kind.toNat] := by rw [he1, List.take_of_length_le (by omega), hby]; rfl
    have hl1 : es1.length = n + 1 := by rw [hq1, List.length_append, hn]; rfl
    have hlim : p.name.length ≤ lim := by unfold lim; omega
    have hc2 := bytes42 p.name (by omega) (n + 1) es1 hl1 (by omega) j (by omega)
    obtain ⟨es2, he2⟩ : ∃ es2, es2 = es1 ++ bL (bytesB p.name) := ⟨_, rfl⟩
    rw [← he2] at hc2
    have hl2 : es2.length = n + 1 + (bytesB p.name).length := by rw [he2, List.length_append, bL_len, hl1]
    have hc3 := uint45 p.n.toNat (by omega) es2.length es2 rfl (by omega) j (by omega)
    rw [← natW (z := p.n) (by omega) (by omega)] at hc3
    obtain ⟨es3, he3⟩ : ∃ es3, es3 = es2 ++ bL (uintB p.n.toNat) := ⟨_, rfl⟩
    rw [← he3] at hc3
    have hl3 : es3.length = es2.length + (uintB p.n.toNat).length := by rw [he3, List.length_append, bL_len]
    have hc4 := maybe46 p.arg g4.1 g4.2 o5 es3.length es3 rfl (by omega) j (by omega)
    obtain ⟨es4, he4⟩ : ∃ es4, es4 = es3 ++ bL (maybeB p.arg) := ⟨_, rfl⟩
    rw [← he4] at hc4
    have hl4 : es4.length = es3.length + (maybeB p.arg).length := by rw [he4, List.length_append, bL_len]
    have hc5 := uint45 p.out.length (by omega) es4.length es4 rfl (by omega) j (by omega)
    have hw5 : IntKind.u64.wrap ((p.out.map FlowT.cells).length : Int) = ((p.out.length : Nat) : Int) := by rw [List.length_map]; exact Go.Rx.wrap_u64 (by omega) (by omega)
    rw [← hw5] at hc5
    obtain ⟨es5, he5⟩ : ∃ es5, es5 = es4 ++ bL (uintB p.out.length) := ⟨_, rfl⟩
    rw [← he5] at hc5
    have hl5 : es5.length = es4.length + (uintB p.out.length).length := by rw [he5, List.length_append, bL_len]
    have hnx : es5 ++ bL (flowsB p.out) = es0 ++ bL (placesB (l.take (i + 1))) := by
      have e : placesB (l.take (i + 1)) = placesB (l.take i) ++ placeB p := flat_take hx
      rw [e, ← bL_app, ← List.append_assoc, ← hes, he5, he4, he3, he2, hq1, placeB]
      simp only [bL_cons, ← bL_app, List.append_assoc, bL_nil, List.append_nil, List.nil_append]
    have hnil : es5 = es5 ++ bL (flowsB (p.out.take 0)) := (List.append_nil _).symm
    conv => lhs; whnf
    refine iteK_dec_t hend ?_
    conv => lhs; whnf
    refine nextK_of (aop_ix rfl rfl rfl rfl (ixL_at' hz (place_get hx) rfl)) ?_
    conv => lhs; whnf
    refine nextK_of (aop_app rfl rfl rfl rfl rfl rfl rfl rfl rfl rfl rfl rfl (lenB (by omega))) ?_
    conv => lhs; whnf
    refine nextK_of (aop_bytes rfl rfl rfl rfl hlim) ?_
    conv => lhs; whnf
    refine nextK_of (he1 ▸ hc2) ?_
    conv => lhs; whnf
    refine nextK_of hc3 ?_
    conv => lhs; whnf
    refine nextK_of hc4 ?_
    conv => lhs; whnf
    refine nextK_of hc5 ?_
    conv => lhs; whnf
    refine nextK_of (loop_at hlp (pd22F j n0 hn0 (l.map PlaceT.cells) (l.map PlaceT.cells).length z p.out o6 g6 o7 es5 (by omega) (fun f hf => by have h1 := wtS_mem (w := FlowT.wt) p.out f hf; have h2 : f.wt = wtL f.iff + 8 := rfl; omega) (by omega) hlp p.out.length 0 0 es5.length es5 j _ rfl (Nat.zero_le _) rfl rfl hnil (by omega) rfl)) ?_
    conv => lhs; whnf
    refine Eq.trans (ihm (i + 1) _ _ _ lf _ (by omega) (by omega) (wrap_up hz (by omega)) rfl hnx (by omega) rfl) ?_
    rfl
end Go.Rx11