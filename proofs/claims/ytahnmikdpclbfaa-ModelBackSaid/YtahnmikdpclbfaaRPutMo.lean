/- A part of the proof of the law: what functions of the program come to, walked by Rx, or plain facts on it. -/
import Derived.Test.YtahnmikdpclbfaaRPutD
import Derived.Test.YtahnmikdpclbfaaRChk
open Go Go.Rx Go.Proofs Go.Rx11 Go.RxTree
set_option maxRecDepth 1000000
set_option maxHeartbeats 4000000
set_option linter.unusedVariables false
set_option linter.unusedSimpArgs false
namespace Go.Rx11
/-- Put's row is handed on. -/
theorem put22o (d : DefT) (hs : d.Sm) (ho : d.Ok) (hc : checkD d = 0) (k : Nat) (hk : d.wt + 100 < k) : ∃ es : List (List D), es = bL (defB d) ∧ icall Try.prog cfg k 22 [.agg [.d (.str d.id), .d (.list (d.places.map PlaceT.cells))]] [] = some (.ret (.tuple [.own (.res 0) 0 es.length, .d (.int .i64 0)]), [(.res 0, .arr 5 1 0 es)]) := by
  obtain ⟨k, rfl⟩ : ∃ j, k = j + 1 := ⟨k - 1, by omega⟩
  have c1 := check12 d hs ho k (by omega)
  rw [hc] at c1
  have hg := check_good hc
  obtain ⟨g1, g2, g3, g4⟩ := hg
  obtain ⟨l1, l2, l3⟩ := def_len ⟨g1, g2, g3, g4⟩ ho
  have hlim : d.id.length ≤ lim := by unfold lim; omega
  have c2 := bytes42n d.id (by omega) k (by omega)
  have c3 := uint45 d.places.length (by omega) (bL (bytesB d.id)).length (bL (bytesB d.id)) rfl (by rw [bL_len]; omega) k (by omega)
  have hw3 : IntKind.u64.wrap ((d.places.map PlaceT.cells).length : Int) = ((d.places.length : Nat) : Int) := by rw [List.length_map]; exact Go.Rx.wrap_u64 (by omega) (by omega)
  rw [← hw3] at c3
  obtain ⟨es, he⟩ : ∃ es, es = bL (bytesB d.id) ++ bL (uintB d.places.length) := ⟨_, rfl⟩
  rw [← he] at c3
  have hel : es.length = (bytesB d.id).length + (uintB d.places.length).length := by rw [he, List.length_append, bL_len, bL_len]
  have hB : es ++ bL (placesB d.places) = bL (defB d) := by rw [he, defB, ← bL_app, ← bL_app, List.append_assoc]
  have hnil : es = es ++ bL (placesB (d.places.take 0)) := (List.append_nil _).symm
  have hj : ∀ p ∈ d.places, p.wt + 80 < k := fun p hp => by have h1 := wtS_mem (w := PlaceT.wt) d.places p hp; unfold DefT.wt at hk; omega
  have hk2 : d.places.length < k := by have := wtS_len (w := PlaceT.wt) d.places; unfold DefT.wt at hk; omega
  refine ⟨es ++ bL (placesB d.places), hB, ?_⟩
  rw [icall_body rfl Try.func22]
  obtain ⟨lp, hlp⟩ : ∃ lp, lp = lpOf Try.prog cfg (icall Try.prog cfg k) Try.f22.ntmps 22 k (([] : Hp).map (·.1)) := ⟨_, rfl⟩
  rw [← hlp]
  conv => lhs; whnf
  refine nextK_of c1 ?_
  conv => lhs; whnf
  refine nextK_of (aop_bytes rfl rfl rfl rfl hlim) ?_
  conv => lhs; whnf
  refine nextK_of c2 ?_
  conv => lhs; whnf
  refine nextK_of c3 ?_
  conv => lhs; whnf
  refine nextK_of (loop_at hlp (pd22P k d.places.length (by omega) d.places ho.2.1 g4 ho.2.2 es (by omega) hj hlp d.places.length 0 0 es.length es k _ rfl (Nat.zero_le _) rfl rfl hnil (by omega) rfl)) ?_
  conv => lhs; whnf
  refine Eq.trans (b := some (Res.ret (AV.tuple [AV.own (Nm.res (0 : Nat)) (nat_lit 0) (List.length (List.append es (bL (placesB d.places)))), AV.d (D.int IntKind.i64 (0 : Int))]), [(Nm.res (0 : Nat), AObj.arr (5 : Nat) (1 : Nat) (nat_lit 0) (List.append es (bL (placesB d.places))))])) (by kernel_rfl) ?_
  rfl
theorem put22e (d : DefT) (hs : d.Sm) (ho : d.Ok) (e : Int) (hc : checkD d = e) (he : e ≠ 0) (k : Nat) (hk : d.wt + 100 < k) : icall Try.prog cfg k 22 [.agg [.d (.str d.id), .d (.list (d.places.map PlaceT.cells))]] [] = some (.ret (.tuple [.nilsl, .d (.int .i64 e)]), []) := by
  obtain ⟨k, rfl⟩ : ∃ j, k = j + 1 := ⟨k - 1, by omega⟩
  have c1 := check12 d hs ho k (by omega)
  rw [hc] at c1
  rw [icall_body rfl Try.func22]
  obtain ⟨lp, hlp⟩ : ∃ lp, lp = lpOf Try.prog cfg (icall Try.prog cfg k) Try.f22.ntmps 22 k (([] : Hp).map (·.1)) := ⟨_, rfl⟩
  rw [← hlp]
  conv => lhs; whnf
  refine nextK_of c1 ?_
  conv => lhs; whnf
  refine iteK_bne_t he ?_
  conv => lhs; whnf
  refine Eq.trans (b := some (Res.ret (AV.tuple [AV.nilsl, AV.d (D.int IntKind.i64 e)]), [])) (by kernel_rfl) ?_
  rfl
end Go.Rx11
