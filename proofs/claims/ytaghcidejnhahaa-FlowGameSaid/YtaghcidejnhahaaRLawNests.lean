/- A part of the proof of the law: what functions of the program come to, walked by Rx, or plain facts on it. -/
import Derived.Test.YtaghcidejnhahaaRWeightD
import Derived.Test.YtaghcidejnhahaaRFlow10
import Derived.Test.YtaghcidejnhahaaRJ2
open Go Go.Rx Go.Proofs Go.Rx12 Go.RxTree
set_option maxRecDepth 1000000
set_option maxHeartbeats 4000000
set_option linter.unusedVariables false
set_option linter.unusedSimpArgs false
namespace Go.Rx12
theorem works12 (k : Nat) (hk : 0 < k) : icall Try.prog cfg k 9 [] [] = some (.ret (.d (.bool true)), []) := by
  obtain ⟨k, rfl⟩ : ∃ j, k = j + 1 := ⟨k - 1, by omega⟩
  rfl
theorem light12 (d : DefT) (ho : d.Ok) (hs : d.Sm) (k : Nat) (hk : d.wt + 2 < k) : icall Try.prog cfg k 8 [d.av] [] = some (.ret (.d (.bool (decide (weightD d 600 ≤ 600)))), []) := by
  obtain ⟨k, rfl⟩ : ∃ j, k = j + 1 := ⟨k - 1, by omega⟩
  show icall Try.prog cfg _ _ [.agg [.d (.str d.id), .d (.list (d.places.map PlaceT.cells))]] [] = _
  rw [icall_body rfl Try.func8]
  obtain ⟨lp, hlp⟩ : ∃ lp, lp = lpOf Try.prog cfg (icall Try.prog cfg k) Try.f8.ntmps 8 k (([] : Hp).map (·.1)) := ⟨_, rfl⟩
  rw [← hlp]
  conv => lhs; whnf
  refine nextK_of (weight28 d 600 ho hs (by omega) (by omega) k (by omega)) ?_
  conv => lhs; whnf
  refine Eq.trans (b := some (Res.ret (AV.d (D.bool (decide (weightD d (600 : Int) ≤ (600 : Int))))), [])) (by kernel_rfl) ?_
  rfl
theorem law5_n (d : DefT) (ho : d.Ok) (hs : d.Sm) (k : Nat) (hk : d.wt + 6000 < k) (hl : decide (weightD d 600 ≤ 600) = false) : icall Try.prog cfg k 5 [d.av] [] = some (.ret (.d (.bool true)), []) := by
  obtain ⟨k, rfl⟩ : ∃ j, k = j + 1 := ⟨k - 1, by omega⟩
  have c1 := light12 d ho hs k (by omega)
  rw [hl] at c1
  show icall Try.prog cfg _ _ [.agg [.d (.str d.id), .d (.list (d.places.map PlaceT.cells))]] [] = _
  rw [icall_body rfl Try.func5]
  obtain ⟨lp, hlp⟩ : ∃ lp, lp = lpOf Try.prog cfg (icall Try.prog cfg k) Try.f5.ntmps 5 k (([] : Hp).map (·.1)) := ⟨_, rfl⟩
  rw [← hlp]
  conv => lhs; whnf
  refine nextK_of c1 ?_
  conv => lhs; whnf
  refine nextK_of (works12 k (by omega)) ?_
  conv => lhs; whnf
  refine Eq.trans (b := some (Res.ret (AV.d (D.bool true)), [])) (by kernel_rfl) ?_
  rfl
theorem law5_e (d : DefT) (ho : d.Ok) (hs : d.Sm) (k : Nat) (hk : d.wt + 6000 < k) (hl : decide (weightD d 600 ≤ 600) = true) (he : ofErr d ≠ 0) : icall Try.prog cfg k 5 [d.av] [] = some (.ret (.d (.bool true)), []) := by
  obtain ⟨k, rfl⟩ : ∃ j, k = j + 1 := ⟨k - 1, by omega⟩
  have c1 := light12 d ho hs k (by omega)
  rw [hl] at c1
  have c2 := of10 d hs ho k (by omega)
  rw [show ofFork d = [] by rw [ofFork, if_neg he], show ofDeep d = [] by rw [ofDeep, if_neg he], show ofJoin d = [] by rw [ofJoin, if_neg he]] at c2
  rw [show shV [] [] [] = .agg [.d (.list []), .d (.list []), .d (.list [])] from rfl] at c2
  generalize ofErr d = e at *
  show icall Try.prog cfg _ _ [.agg [.d (.str d.id), .d (.list (d.places.map PlaceT.cells))]] [] = _
  rw [icall_body rfl Try.func5]
  obtain ⟨lp, hlp⟩ : ∃ lp, lp = lpOf Try.prog cfg (icall Try.prog cfg k) Try.f5.ntmps 5 k (([] : Hp).map (·.1)) := ⟨_, rfl⟩
  rw [← hlp]
  conv => lhs; whnf
  refine nextK_of c1 ?_
  conv => lhs; whnf
  refine nextK_of c2 ?_
  conv => lhs; whnf
  refine iteK_bne_t he ?_
  conv => lhs; whnf
  refine nextK_of (works12 k (by omega)) ?_
  conv => lhs; whnf
  refine Eq.trans (b := some (Res.ret (AV.d (D.bool true)), [])) (by kernel_rfl) ?_
  rfl
end Go.Rx12
