/- A part of the proof of the law: what functions of the program come to, walked by Rx, or plain facts on it. -/
import Derived.Test.YtaghcidejnhahaaRLawNests
import Derived.Test.YtaghcidejnhahaaRRow6
import Derived.Test.YtaghcidejnhahaaRJ1
open Go Go.Rx Go.Proofs Go.Rx12 Go.RxTree
set_option maxRecDepth 1000000
set_option maxHeartbeats 4000000
set_option linter.unusedVariables false
set_option linter.unusedSimpArgs false
namespace Go.Rx12
theorem ref_len (d : DefT) : (refFork d).length ≤ 5000 ∧ (refDeep d).length ≤ 5000 ∧ (refJoin d).length ≤ 5000 := by
  unfold refFork refDeep refJoin
  by_cases he : refErr d = 0
  · rw [if_pos he, if_pos he, if_pos he]
    have hc : checkD d = 0 := by
      by_cases hc : checkD d = 0
      · exact hc
      · unfold refErr at he; rw [if_neg hc] at he; exact absurd he hc
    obtain ⟨c1, c2, _⟩ := check_ok hc
    have hok := rowsR_ok (ps := d.places) c2 (fun p hp => (check_out hc p hp).1)
    have h1 := hok.len.1
    have h2 := hok.len.2
    refine ⟨?_, ?_, ?_⟩
    · rw [rowF, List.length_map]; omega
    · rw [rowD, List.length_map]; omega
    · omega
  · rw [if_neg he, if_neg he, if_neg he]; simp
theorem sameS_self (a : List Int) : sameS a a = true := by rw [sameS_eq]; simp
theorem law3 (d : DefT) (ho : d.Ok) (hs : d.Sm) (k : Nat) (hk : d.wt + 120000 < k) : icall Try.prog cfg k 3 [d.av] [] = some (.ret (.d (.bool true)), []) := by
  obtain ⟨k, rfl⟩ : ∃ j, k = j + 1 := ⟨k - 1, by omega⟩
  have c1 := light12 d ho hs k (by omega)
  have c2 := of10 d hs ho k (by omega)
  have c3 := of11 d hs ho k (by omega)
  obtain ⟨r1, r2, r3⟩ := ref_same d
  rw [r1, r2, r3, ref_err] at c2
  obtain ⟨b1, b2, b3⟩ := ref_len d
  have c4 := same12 (refFork d) (refDeep d) (refJoin d) (refFork d) (refDeep d) (refJoin d) b1 b2 b3 k (by omega)
  rw [sameS_self, sameS_self, sameS_self] at c4
  unfold shV at c2 c3 c4
  generalize iC (refFork d) = x1 at *
  generalize iC (refDeep d) = x2 at *
  generalize iC (refJoin d) = x3 at *
  generalize refErr d = e at *
  show icall Try.prog cfg _ _ [.agg [.d (.str d.id), .d (.list (d.places.map PlaceT.cells))]] [] = _
  cases hl : decide (weightD d 600 ≤ 600) with
  | false =>
    rw [hl] at c1
    rw [icall_body rfl Try.func3]
    obtain ⟨lp, hlp⟩ : ∃ lp, lp = lpOf Try.prog cfg (icall Try.prog cfg k) Try.f3.ntmps 3 k (([] : Hp).map (·.1)) := ⟨_, rfl⟩
    rw [← hlp]
    conv => lhs; whnf
    refine nextK_of c1 ?_
    conv => lhs; whnf
    refine nextK_of (works12 k (by omega)) ?_
    conv => lhs; whnf
    refine Eq.trans (b := some (Res.ret (AV.d (D.bool true)), [])) (by kernel_rfl) ?_
    rfl
  | true =>
    rw [hl] at c1
    rw [icall_body rfl Try.func3]
    obtain ⟨lp, hlp⟩ : ∃ lp, lp = lpOf Try.prog cfg (icall Try.prog cfg k) Try.f3.ntmps 3 k (([] : Hp).map (·.1)) := ⟨_, rfl⟩
    rw [← hlp]
    conv => lhs; whnf
    refine nextK_of c1 ?_
    conv => lhs; whnf
    refine nextK_of c2 ?_
    conv => lhs; whnf
    refine nextK_of c3 ?_
    conv => lhs; whnf
    refine iteK_beq (fun h1 => ?_) (fun h1 => ?_)
    · rw [beq_t h1]
      conv => lhs; whnf
      refine nextK_of c4 ?_
      conv => lhs; whnf
      refine nextK_of (works12 k (by omega)) ?_
      conv => lhs; whnf
      refine Eq.trans (b := some (Res.ret (AV.d (D.bool true)), [])) (by kernel_rfl) ?_
      rfl
    · rw [beq_f h1]
      (exfalso; omega)
end Go.Rx12
