/- A part of the proof of the law: what functions of the program come to, walked by Rx, or plain facts on it. -/
import Derived.Test.YtahnmikdpclbfaaRPutR2
import Derived.Test.YtahnmikdpclbfaaRLaw3
open Go Go.Rx Go.Proofs Go.Rx11 Go.RxTree
set_option maxRecDepth 1000000
set_option maxHeartbeats 4000000
set_option linter.unusedVariables false
set_option linter.unusedSimpArgs false
namespace Go.Rx11
theorem put23 (d : DefT) (hs : d.Sm) (ho : d.Ok) (k : Nat) (hk : d.wt + 100 < k) : icall Try.prog cfg k 23 [d.av] [] = some (.ret (.tuple [.d (.list (bL (putP d).1)), .d (.int .i64 (putP d).2)]), []) := by
  obtain ⟨k, rfl⟩ : ∃ j, k = j + 1 := ⟨k - 1, by omega⟩
  have c1 := check13 d hs ho k (by omega)
  show icall Try.prog cfg _ _ [.agg [.d (.str d.id), .d (.list (d.places.map PlaceT.cells))]] [] = _
  unfold putP
  by_cases hc : checkD d = 0
  · rw [hc] at c1
    rw [if_pos hc]
    have hg := check_good hc
    obtain ⟨g1, g2, g3, g4⟩ := hg
    obtain ⟨l1, l2, l3⟩ := def_len ⟨g1, g2, g3, g4⟩ ho
    have hlim : d.id.length ≤ lim := by unfold lim; omega
    have c2 := bytes44 d.id (by omega) k (by omega)
    have c3 := uint47 d.places.length (by omega) k (by omega)
    have hw3 : IntKind.u64.wrap ((d.places.map PlaceT.cells).length : Int) = ((d.places.length : Nat) : Int) := by rw [List.length_map]; exact Go.Rx.wrap_u64 (by omega) (by omega)
    rw [← hw3] at c3
    have k1 := tk_len (uintB d.places.length)
    have k2 := bL_len (bytesB d.id)
    have b1 : (bL (bytesB d.id)).length + (tk (uintB d.places.length)).length ≤ 50000000000000 := by omega
    obtain ⟨es, he⟩ : ∃ es, es = bL (bytesB d.id) ++ bL (uintB d.places.length) := ⟨_, rfl⟩
    have q1 : (bL (bytesB d.id)).take (bL (bytesB d.id)).length ++ tk (uintB d.places.length) = es := by rw [he, List.take_length, tk_eq]
    have w1 : ((bL (bytesB d.id)).take (bL (bytesB d.id)).length ++ tk (uintB d.places.length)).length = (bL (bytesB d.id)).length + (tk (uintB d.places.length)).length := by rw [List.take_length, List.length_append]
    have hB : bL (defB d) = ((bL (bytesB d.id)).take (bL (bytesB d.id)).length ++ tk (uintB d.places.length)) ++ bL (placesB d.places) := by rw [q1, he, defB, ← bL_app, ← bL_app, List.append_assoc]
    have hnil : ((bL (bytesB d.id)).take (bL (bytesB d.id)).length ++ tk (uintB d.places.length)) = ((bL (bytesB d.id)).take (bL (bytesB d.id)).length ++ tk (uintB d.places.length)) ++ bL (placesB (d.places.take 0)) := (List.append_nil _).symm
    have hall : ((bL (bytesB d.id)).take (bL (bytesB d.id)).length ++ tk (uintB d.places.length)).length + (placesB d.places).length + 4000000 ≤ 50000000000000 := by omega
    have hj : ∀ p ∈ d.places, p.wt + 80 < k := fun p hp => by have h1 := wtS_mem (w := PlaceT.wt) d.places p hp; unfold DefT.wt at hk; omega
    have hk2 : d.places.length < k := by have := wtS_len (w := PlaceT.wt) d.places; unfold DefT.wt at hk; omega
    rw [hB]
    rw [icall_body rfl Try.func23]
    obtain ⟨lp, hlp⟩ : ∃ lp, lp = lpOf Try.prog cfg (icall Try.prog cfg k) Try.f23.ntmps 23 k (([] : Hp).map (·.1)) := ⟨_, rfl⟩
    rw [← hlp]
    conv => lhs; whnf
    refine nextK_of c1 ?_
    conv => lhs; whnf
    refine nextK_of (aop_bytes rfl rfl rfl rfl hlim) ?_
    conv => lhs; whnf
    refine nextK_of c2 ?_
    conv => lhs; whnf
    refine nextK_of c3 ?_
    conv => lhs; whnf
    refine nextK_of (aop_app rfl rfl rfl rfl rfl rfl rfl rfl rfl (tk_all _) rfl rfl (lenB2 b1)) ?_
    conv => lhs; whnf
    refine nextK_of (loop_at hlp (pr23P k d.places.length (by omega) d ho.2.1 g4 ho.2.2 ((bL (bytesB d.id)).take (bL (bytesB d.id)).length ++ tk (uintB d.places.length)) hall hj hlp d.places.length 0 0 _ _ k _ rfl (Nat.zero_le _) rfl w1 hnil (by omega) rfl)) ?_
    conv => lhs; whnf
    refine Eq.trans (b := some (Res.ret (AV.tuple [AV.d (D.list (List.take (List.length (List.append (List.append (List.take (List.length (bL (bytesB d.id))) (bL (bytesB d.id))) (List.take (List.length (bL (uintB (List.length d.places)))) (bL (uintB (List.length d.places))))) (bL (placesB d.places)))) (List.append (List.append (List.take (List.length (bL (bytesB d.id))) (bL (bytesB d.id))) (List.take (List.length (bL (uintB (List.length d.places)))) (bL (uintB (List.length d.places))))) (bL (placesB d.places))))), AV.d (D.int IntKind.i64 (0 : Int))]), [])) (by kernel_rfl) ?_
    (show some (Res.ret (.tuple [.d (.list ((((bL (bytesB d.id)).take (bL (bytesB d.id)).length ++ tk (uintB d.places.length)) ++ bL (placesB d.places)).take (((bL (bytesB d.id)).take (bL (bytesB d.id)).length ++ tk (uintB d.places.length)) ++ bL (placesB d.places)).length)), .d (.int .i64 0)]), ([] : Hp)) = _; rw [List.take_length (l := (_ ++ bL (placesB d.places)))])
  · rw [if_neg hc]
    generalize checkD d = e at c1 hc
    rw [icall_body rfl Try.func23]
    obtain ⟨lp, hlp⟩ : ∃ lp, lp = lpOf Try.prog cfg (icall Try.prog cfg k) Try.f23.ntmps 23 k (([] : Hp).map (·.1)) := ⟨_, rfl⟩
    rw [← hlp]
    conv => lhs; whnf
    refine nextK_of c1 ?_
    conv => lhs; whnf
    refine iteK_bne_t hc ?_
    conv => lhs; whnf
    refine Eq.trans (b := some (Res.ret (AV.tuple [AV.d (D.list []), AV.d (D.int IntKind.i64 e)]), [])) (by kernel_rfl) ?_
    rfl
end Go.Rx11
