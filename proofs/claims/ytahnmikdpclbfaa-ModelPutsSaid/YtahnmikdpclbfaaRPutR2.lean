/- A part of the proof of the law: what functions of the program come to, walked by Rx, or plain facts on it. -/
import Derived.Test.YtahnmikdpclbfaaRPutR
open Go Go.Rx Go.Proofs Go.Rx11 Go.RxTree
set_option maxRecDepth 1000000
set_option maxHeartbeats 4000000
set_option linter.unusedVariables false
set_option linter.unusedSimpArgs false
namespace Go.Rx11
theorem pr23P (j : Nat) (n0 : Int) (hn0 : n0 ≤ 4096) (d : DefT) (hm : d.places.length ≤ maxLen) (gd : ∀ p ∈ d.places, GoodP n0 p) (ok : ∀ p ∈ d.places, p.Ok) (es0 : List (List D)) (hall : es0.length + (placesB d.places).length + 4000000 ≤ 50000000000000) (hj : ∀ p ∈ d.places, p.wt + 80 < j) {lp : LP} (hlp : lp = lpOf Try.prog cfg (icall Try.prog cfg j) Try.f23.ntmps 23 j (([] : Hp).map (·.1))) :
    ∀ (m i : Nat) (z : Int) (n : Nat) (es : List (List D)) (lf : Nat) (st : St), (d.places).length - i = m → i ≤ (d.places).length → z = (i : Int) → es.length = n → es = es0 ++ bL (placesB (d.places.take i)) → m < lf → prune [] [1, 5, 6] st = some ⟨[(1, .ptr (.slot 1) 0), (5, .own (Nm.cell (Nm.res 17) 0) 0 n), (6, .d (.int .i64 z))], [exDf d, arrB (Nm.cell (Nm.res 17) 0) 0 es]⟩ →
      loopK Try.prog cfg (icall Try.prog cfg j) lp Try.f23.ntmps 23 [] (bodyAt Try.f23 7) lf st (exitP [] (some [5])) = some (.exit 0, ⟨[(5, .own (Nm.cell (Nm.res 17) 0) 0 (es0 ++ bL (placesB d.places)).length)], [arrB (Nm.cell (Nm.res 17) 0) 0 (es0 ++ bL (placesB d.places))]⟩) := by
  intro m
  induction m with
  | zero =>
    intro i z n es lf st hi hle hz hn hes hlf hp
    obtain ⟨lf, rfl⟩ : ∃ n, lf = n + 1 := ⟨lf - 1, by omega⟩
    refine loop_step hp ?_
    have hend : ¬ z < ((d.places.map PlaceT.cells).length : Int) := by rw [List.length_map]; omega
    obtain rfl : i = d.places.length := by omega
    rw [List.take_length] at hes
    subst hn
    subst hes
    conv => lhs; whnf
    refine iteK_dec_f hend ?_
    conv => lhs; whnf
    refine Eq.trans (b := some (Fx.exit (0 : Nat), St.mk [((5 : Nat), AV.own (Nm.cell (Nm.res (17 : Nat)) (0 : Nat)) (nat_lit 0) (List.length (List.append es0 (bL (placesB d.places)))))] [(Nm.cell (Nm.res (17 : Nat)) (0 : Nat), AObj.arr (5 : Nat) (1 : Nat) (nat_lit 0) (List.append es0 (bL (placesB d.places))))])) (by kernel_rfl) ?_
    rfl
  | succ m ihm =>
    intro i z n es lf st hi hle hz hn hes hlf hp
    obtain ⟨lf, rfl⟩ : ∃ n, lf = n + 1 := ⟨lf - 1, by omega⟩
    refine loop_step hp ?_
    have hend : z < ((d.places.map PlaceT.cells).length : Int) := by rw [List.length_map]; omega
    have hx : d.places[i]? = some d.places[i] := List.getElem?_eq_getElem (by omega)
    generalize d.places[i] = p at hx
    have hxm := List.mem_of_getElem? hx
    have hle := flat_le (g := placeB) hx
    have hel : es.length = es0.length + ((d.places.take i).flatMap placeB).length := by rw [hes, List.length_append, bL_len]; rfl
    have hall' : es0.length + (d.places.flatMap placeB).length + 4000000 ≤ 50000000000000 := hall
    obtain ⟨o1, o2, o3, o4, o5, o6, o7⟩ := ok p hxm
    have gp := gd p hxm
    obtain ⟨g1, g2, g3, g4, g5, g6⟩ := gp
    have hjp := hj p hxm
    unfold PlaceT.wt at hjp
    have hwo := wtS_len (w := FlowT.wt) p.out
    have hpl : (placeB p).length = 1 + ((bytesB p.name).length + ((uintB p.n.toNat).length + ((maybeB p.arg).length + ((uintB p.out.length).length + (flowsB p.out).length)))) := by unfold placeB; simp only [List.length_cons, List.length_append]; omega
    have hby : IntKind.u8.wrap p.kind = ((UInt8.ofNat p.kind.toNat).toNat : Int) := byteK (by omega)
    have hlim : p.name.length ≤ lim := by unfold lim; omega
    have hc2 := bytes44 p.name (by omega) j (by omega)
    have hc3 := uint47 p.n.toNat (by omega) j (by omega)
    rw [← natW (z := p.n) (by omega) (by omega)] at hc3
    have hc4 := maybe48 p.arg g4.1 g4.2 o5 j (by omega)
    have hc5 := uint47 p.out.length (by omega) j (by omega)
    have hw5 : IntKind.u64.wrap ((p.out.map FlowT.cells).length : Int) = ((p.out.length : Nat) : Int) := by rw [List.length_map]; exact Go.Rx.wrap_u64 (by omega) (by omega)
    rw [← hw5] at hc5
    have q0 : (es.take n ++ [[D.int .u8 (IntKind.u8.wrap p.kind)]]) = (es ++ bL [UInt8.ofNat p.kind.toNat]) := by rw [List.take_of_length_le (by omega), hby]; rfl
    have w0 : (es ++ bL [UInt8.ofNat p.kind.toNat]).length = (n + 1) := by rw [List.length_append, hn]; rfl
    have v1 := tk_len (bytesB p.name)
    have b1 : ((n + 1) + (tk (bytesB p.name)).length) ≤ 50000000000000 := by omega
    have q1 : (((es.take n ++ [[D.int .u8 (IntKind.u8.wrap p.kind)]])).take (n + 1) ++ (tk (bytesB p.name))) = ((es ++ bL [UInt8.ofNat p.kind.toNat]) ++ bL (bytesB p.name)) := by rw [q0, List.take_of_length_le (Nat.le_of_eq w0), tk_eq (bytesB p.name)]
    have w1 : ((es ++ bL [UInt8.ofNat p.kind.toNat]) ++ bL (bytesB p.name)).length = ((n + 1) + (tk (bytesB p.name)).length) := by rw [List.length_append, w0, tk_eq (bytesB p.name)]
    have v2 := tk_len (uintB p.n.toNat)
    have b2 : (((n + 1) + (tk (bytesB p.name)).length) + (tk (uintB p.n.toNat)).length) ≤ 50000000000000 := by omega
    have q2 : (((((es.take n ++ [[D.int .u8 (IntKind.u8.wrap p.kind)]])).take (n + 1) ++ (tk (bytesB p.name)))).take ((n + 1) + (tk (bytesB p.name)).length) ++ (tk (uintB p.n.toNat))) = (((es ++ bL [UInt8.ofNat p.kind.toNat]) ++ bL (bytesB p.name)) ++ bL (uintB p.n.toNat)) := by rw [q1, List.take_of_length_le (Nat.le_of_eq w1), tk_eq (uintB p.n.toNat)]
    have w2 : (((es ++ bL [UInt8.ofNat p.kind.toNat]) ++ bL (bytesB p.name)) ++ bL (uintB p.n.toNat)).length = (((n + 1) + (tk (bytesB p.name)).length) + (tk (uintB p.n.toNat)).length) := by rw [List.length_append, w1, tk_eq (uintB p.n.toNat)]
    have v3 := bL_len (maybeB p.arg)
    have b3 : ((((n + 1) + (tk (bytesB p.name)).length) + (tk (uintB p.n.toNat)).length) + (bL (maybeB p.arg)).length) ≤ 50000000000000 := by omega
    have q3 : (((((((es.take n ++ [[D.int .u8 (IntKind.u8.wrap p.kind)]])).take (n + 1) ++ (tk (bytesB p.name)))).take ((n + 1) + (tk (bytesB p.name)).length) ++ (tk (uintB p.n.toNat)))).take (((n + 1) + (tk (bytesB p.name)).length) + (tk (uintB p.n.toNat)).length) ++ (bL (maybeB p.arg))) = ((((es ++ bL [UInt8.ofNat p.kind.toNat]) ++ bL (bytesB p.name)) ++ bL (uintB p.n.toNat)) ++ bL (maybeB p.arg)) := by rw [q2, List.take_of_length_le (Nat.le_of_eq w2)]
    have w3 : ((((es ++ bL [UInt8.ofNat p.kind.toNat]) ++ bL (bytesB p.name)) ++ bL (uintB p.n.toNat)) ++ bL (maybeB p.arg)).length = ((((n + 1) + (tk (bytesB p.name)).length) + (tk (uintB p.n.toNat)).length) + (bL (maybeB p.arg)).length) := by rw [List.length_append, w2]
    have v4 := tk_len (uintB p.out.length)
    have b4 : (((((n + 1) + (tk (bytesB p.name)).length) + (tk (uintB p.n.toNat)).length) + (bL (maybeB p.arg)).length) + (tk (uintB p.out.length)).length) ≤ 50000000000000 := by omega
    have q4 : (((((((((es.take n ++ [[D.int .u8 (IntKind.u8.wrap p.kind)]])).take (n + 1) ++ (tk (bytesB p.name)))).take ((n + 1) + (tk (bytesB p.name)).length) ++ (tk (uintB p.n.toNat)))).take (((n + 1) + (tk (bytesB p.name)).length) + (tk (uintB p.n.toNat)).length) ++ (bL (maybeB p.arg)))).take ((((n + 1) + (tk (bytesB p.name)).length) + (tk (uintB p.n.toNat)).length) + (bL (maybeB p.arg)).length) ++ (tk (uintB p.out.length))) = (((((es ++ bL [UInt8.ofNat p.kind.toNat]) ++ bL (bytesB p.name)) ++ bL (uintB p.n.toNat)) ++ bL (maybeB p.arg)) ++ bL (uintB p.out.length)) := by rw [q3, List.take_of_length_le (Nat.le_of_eq w3), tk_eq (uintB p.out.length)]
    have w4 : (((((es ++ bL [UInt8.ofNat p.kind.toNat]) ++ bL (bytesB p.name)) ++ bL (uintB p.n.toNat)) ++ bL (maybeB p.arg)) ++ bL (uintB p.out.length)).length = (((((n + 1) + (tk (bytesB p.name)).length) + (tk (uintB p.n.toNat)).length) + (bL (maybeB p.arg)).length) + (tk (uintB p.out.length)).length) := by rw [List.length_append, w3, tk_eq (uintB p.out.length)]
    have w5 : (((((((((es.take n ++ [[D.int .u8 (IntKind.u8.wrap p.kind)]])).take (n + 1) ++ (tk (bytesB p.name)))).take ((n + 1) + (tk (bytesB p.name)).length) ++ (tk (uintB p.n.toNat)))).take (((n + 1) + (tk (bytesB p.name)).length) + (tk (uintB p.n.toNat)).length) ++ (bL (maybeB p.arg)))).take ((((n + 1) + (tk (bytesB p.name)).length) + (tk (uintB p.n.toNat)).length) + (bL (maybeB p.arg)).length) ++ (tk (uintB p.out.length))).length = (((((n + 1) + (tk (bytesB p.name)).length) + (tk (uintB p.n.toNat)).length) + (bL (maybeB p.arg)).length) + (tk (uintB p.out.length)).length) := by rw [q4, w4]
    have hnil : (((((((((es.take n ++ [[D.int .u8 (IntKind.u8.wrap p.kind)]])).take (n + 1) ++ (tk (bytesB p.name)))).take ((n + 1) + (tk (bytesB p.name)).length) ++ (tk (uintB p.n.toNat)))).take (((n + 1) + (tk (bytesB p.name)).length) + (tk (uintB p.n.toNat)).length) ++ (bL (maybeB p.arg)))).take ((((n + 1) + (tk (bytesB p.name)).length) + (tk (uintB p.n.toNat)).length) + (bL (maybeB p.arg)).length) ++ (tk (uintB p.out.length))) = (((((((((es.take n ++ [[D.int .u8 (IntKind.u8.wrap p.kind)]])).take (n + 1) ++ (tk (bytesB p.name)))).take ((n + 1) + (tk (bytesB p.name)).length) ++ (tk (uintB p.n.toNat)))).take (((n + 1) + (tk (bytesB p.name)).length) + (tk (uintB p.n.toNat)).length) ++ (bL (maybeB p.arg)))).take ((((n + 1) + (tk (bytesB p.name)).length) + (tk (uintB p.n.toNat)).length) + (bL (maybeB p.arg)).length) ++ (tk (uintB p.out.length))) ++ bL (flowsB (p.out.take 0)) := (List.append_nil _).symm
    have hallF : (((((((((es.take n ++ [[D.int .u8 (IntKind.u8.wrap p.kind)]])).take (n + 1) ++ (tk (bytesB p.name)))).take ((n + 1) + (tk (bytesB p.name)).length) ++ (tk (uintB p.n.toNat)))).take (((n + 1) + (tk (bytesB p.name)).length) + (tk (uintB p.n.toNat)).length) ++ (bL (maybeB p.arg)))).take ((((n + 1) + (tk (bytesB p.name)).length) + (tk (uintB p.n.toNat)).length) + (bL (maybeB p.arg)).length) ++ (tk (uintB p.out.length))).length + (flowsB p.out).length + 3000000 ≤ 50000000000000 := by omega
    have hnx : (((((((((es.take n ++ [[D.int .u8 (IntKind.u8.wrap p.kind)]])).take (n + 1) ++ (tk (bytesB p.name)))).take ((n + 1) + (tk (bytesB p.name)).length) ++ (tk (uintB p.n.toNat)))).take (((n + 1) + (tk (bytesB p.name)).length) + (tk (uintB p.n.toNat)).length) ++ (bL (maybeB p.arg)))).take ((((n + 1) + (tk (bytesB p.name)).length) + (tk (uintB p.n.toNat)).length) + (bL (maybeB p.arg)).length) ++ (tk (uintB p.out.length))) ++ bL (flowsB p.out) = es0 ++ bL (placesB (d.places.take (i + 1))) := by
      have e : placesB (d.places.take (i + 1)) = placesB (d.places.take i) ++ placeB p := flat_take hx
      rw [q4, e, ← bL_app, ← List.append_assoc, ← hes, placeB]
      simp only [bL_cons, ← bL_app, List.append_assoc, bL_nil, List.append_nil, List.nil_append]
    conv => lhs; whnf
    refine iteK_dec_t hend ?_
    conv => lhs; whnf
    refine nextK_of (aop_ix rfl rfl rfl rfl (ixL_at' hz (place_get hx) rfl)) ?_
    conv => lhs; whnf
    refine nextK_of (aop_app rfl rfl rfl rfl rfl rfl rfl rfl rfl rfl rfl rfl (lenB (by omega))) ?_
    conv => lhs; whnf
    refine nextK_of (aop_bytes rfl rfl rfl rfl hlim) ?_
    conv => lhs; whnf
    refine nextK_of hc2 ?_
    conv => lhs; whnf
    refine nextK_of (aop_app rfl rfl rfl rfl rfl rfl rfl rfl rfl (tk_all _) rfl rfl (lenB2 b1)) ?_
    conv => lhs; whnf
    refine nextK_of hc3 ?_
    conv => lhs; whnf
    refine nextK_of (aop_app rfl rfl rfl rfl rfl rfl rfl rfl rfl (tk_all _) rfl rfl (lenB2 b2)) ?_
    conv => lhs; whnf
    refine nextK_of hc4 ?_
    conv => lhs; whnf
    refine nextK_of (aop_app rfl rfl rfl rfl rfl rfl rfl rfl rfl (bL_all _) rfl rfl (lenB2 b3)) ?_
    conv => lhs; whnf
    refine nextK_of hc5 ?_
    conv => lhs; whnf
    refine nextK_of (aop_app rfl rfl rfl rfl rfl rfl rfl rfl rfl (tk_all _) rfl rfl (lenB2 b4)) ?_
    conv => lhs; whnf
    refine nextK_of (loop_at hlp (pr23F j n0 hn0 d z p o6 g6 o7 (((((((((es.take n ++ [[D.int .u8 (IntKind.u8.wrap p.kind)]])).take (n + 1) ++ (tk (bytesB p.name)))).take ((n + 1) + (tk (bytesB p.name)).length) ++ (tk (uintB p.n.toNat)))).take (((n + 1) + (tk (bytesB p.name)).length) + (tk (uintB p.n.toNat)).length) ++ (bL (maybeB p.arg)))).take ((((n + 1) + (tk (bytesB p.name)).length) + (tk (uintB p.n.toNat)).length) + (bL (maybeB p.arg)).length) ++ (tk (uintB p.out.length))) hallF (fun f hf => by have h1 := wtS_mem (w := FlowT.wt) p.out f hf; have h2 : f.wt = wtL f.iff + 8 := rfl; omega) (by omega) hlp p.out.length 0 0 (((((n + 1) + (tk (bytesB p.name)).length) + (tk (uintB p.n.toNat)).length) + (bL (maybeB p.arg)).length) + (tk (uintB p.out.length)).length) (((((((((es.take n ++ [[D.int .u8 (IntKind.u8.wrap p.kind)]])).take (n + 1) ++ (tk (bytesB p.name)))).take ((n + 1) + (tk (bytesB p.name)).length) ++ (tk (uintB p.n.toNat)))).take (((n + 1) + (tk (bytesB p.name)).length) + (tk (uintB p.n.toNat)).length) ++ (bL (maybeB p.arg)))).take ((((n + 1) + (tk (bytesB p.name)).length) + (tk (uintB p.n.toNat)).length) + (bL (maybeB p.arg)).length) ++ (tk (uintB p.out.length))) j _ rfl (Nat.zero_le _) rfl w5 hnil (by omega) rfl)) ?_
    conv => lhs; whnf
    refine Eq.trans (ihm (i + 1) _ _ _ lf _ (by omega) (by omega) (wrap_up hz (by omega)) rfl hnx (by omega) rfl) ?_
    rfl
end Go.Rx11