/- A part of the proof of the law: what functions of the program come to, walked by Rx, or plain facts on it. -/
import Derived.Test.YtaghcidejnhahaaRGame
open Go Go.Rx Go.Proofs Go.Rx12 Go.RxTree
set_option maxRecDepth 1000000
set_option maxHeartbeats 4000000
set_option linter.unusedVariables false
set_option linter.unusedSimpArgs false
namespace Go.Rx12
theorem law6_n (d : DefT) (ho : d.Ok) (hs : d.Sm) (ms fs : List Int) (k : Nat) (hk : d.wt + 120000 < k) (hl : decide (weightD d 600 ≤ 600) = false) : icall Try.prog cfg k 6 [d.av, .d (.list (iC ms)), .d (.list (iC fs))] [] = some (.ret (.d (.bool true)), []) := by
  obtain ⟨k, rfl⟩ : ∃ j, k = j + 1 := ⟨k - 1, by omega⟩
  have c1 := light12 d ho hs k (by omega)
  rw [hl] at c1
  show icall Try.prog cfg _ _ [.agg [.d (.str d.id), .d (.list (d.places.map PlaceT.cells))], .d (.list (iC ms)), .d (.list (iC fs))] [] = _
  rw [icall_body rfl Try.func6]
  obtain ⟨lp, hlp⟩ : ∃ lp, lp = lpOf Try.prog cfg (icall Try.prog cfg k) Try.f6.ntmps 6 k (([] : Hp).map (·.1)) := ⟨_, rfl⟩
  rw [← hlp]
  conv => lhs; whnf
  refine nextK_of c1 ?_
  conv => lhs; whnf
  refine nextK_of (works12 k (by omega)) ?_
  conv => lhs; whnf
  refine Eq.trans (b := some (Res.ret (AV.d (D.bool true)), [])) (by kernel_rfl) ?_
  rfl
theorem law6_p (d : DefT) (ho : d.Ok) (hs : d.Sm) (ms fs : List Int) (k : Nat) (hk : d.wt + 120000 < k) (hl : decide (weightD d 600 ≤ 600) = true) (hp : d.places.length > 60) : icall Try.prog cfg k 6 [d.av, .d (.list (iC ms)), .d (.list (iC fs))] [] = some (.ret (.d (.bool true)), []) := by
  obtain ⟨k, rfl⟩ : ∃ j, k = j + 1 := ⟨k - 1, by omega⟩
  have c1 := light12 d ho hs k (by omega)
  rw [hl] at c1
  have hp' : ((d.places.map PlaceT.cells).length : Int) > 60 := by rw [List.length_map]; omega
  show icall Try.prog cfg _ _ [.agg [.d (.str d.id), .d (.list (d.places.map PlaceT.cells))], .d (.list (iC ms)), .d (.list (iC fs))] [] = _
  rw [icall_body rfl Try.func6]
  obtain ⟨lp, hlp⟩ : ∃ lp, lp = lpOf Try.prog cfg (icall Try.prog cfg k) Try.f6.ntmps 6 k (([] : Hp).map (·.1)) := ⟨_, rfl⟩
  rw [← hlp]
  conv => lhs; whnf
  refine nextK_of c1 ?_
  conv => lhs; whnf
  refine iteK_dec_t hp' ?_
  conv => lhs; whnf
  refine iteK_dec_t hp' ?_
  conv => lhs; whnf
  refine iteK_dec_t hp' ?_
  conv => lhs; whnf
  refine iteK_dec_t hp' ?_
  conv => lhs; whnf
  refine nextK_of (works12 k (by omega)) ?_
  conv => lhs; whnf
  refine Eq.trans (b := some (Res.ret (AV.d (D.bool true)), [])) (by kernel_rfl) ?_
  rfl
theorem law6_m (d : DefT) (ho : d.Ok) (hs : d.Sm) (ms fs : List Int) (k : Nat) (hk : d.wt + 120000 < k) (hl : decide (weightD d 600 ≤ 600) = true) (hp : ¬ d.places.length > 60) (hm : ms.length > 60) : icall Try.prog cfg k 6 [d.av, .d (.list (iC ms)), .d (.list (iC fs))] [] = some (.ret (.d (.bool true)), []) := by
  obtain ⟨k, rfl⟩ : ∃ j, k = j + 1 := ⟨k - 1, by omega⟩
  have c1 := light12 d ho hs k (by omega)
  rw [hl] at c1
  have hp' : ¬ ((d.places.map PlaceT.cells).length : Int) > 60 := by rw [List.length_map]; omega
  have hm' : ((iC ms).length : Int) > 60 := by rw [iC_len]; omega
  show icall Try.prog cfg _ _ [.agg [.d (.str d.id), .d (.list (d.places.map PlaceT.cells))], .d (.list (iC ms)), .d (.list (iC fs))] [] = _
  rw [icall_body rfl Try.func6]
  obtain ⟨lp, hlp⟩ : ∃ lp, lp = lpOf Try.prog cfg (icall Try.prog cfg k) Try.f6.ntmps 6 k (([] : Hp).map (·.1)) := ⟨_, rfl⟩
  rw [← hlp]
  conv => lhs; whnf
  refine nextK_of c1 ?_
  conv => lhs; whnf
  refine iteK_dec_f hp' ?_
  conv => lhs; whnf
  refine iteK_dec_f hp' ?_
  conv => lhs; whnf
  refine iteK_dec_f hp' ?_
  conv => lhs; whnf
  refine iteK_dec_f hp' ?_
  conv => lhs; whnf
  refine iteK_dec_t hm' ?_
  conv => lhs; whnf
  refine nextK_of (works12 k (by omega)) ?_
  conv => lhs; whnf
  refine Eq.trans (b := some (Res.ret (AV.d (D.bool true)), [])) (by kernel_rfl) ?_
  rfl
theorem law6_e (d : DefT) (ho : d.Ok) (hs : d.Sm) (ms fs : List Int) (k : Nat) (hk : d.wt + 120000 < k) (hl : decide (weightD d 600 ≤ 600) = true) (hp : ¬ d.places.length > 60) (hm : ¬ ms.length > 60) (he : ofErr d ≠ 0) : icall Try.prog cfg k 6 [d.av, .d (.list (iC ms)), .d (.list (iC fs))] [] = some (.ret (.d (.bool true)), []) := by
  obtain ⟨k, rfl⟩ : ∃ j, k = j + 1 := ⟨k - 1, by omega⟩
  have c1 := light12 d ho hs k (by omega)
  rw [hl] at c1
  have c2 := of10 d hs ho k (by omega)
  unfold shV at c2
  generalize iC (ofFork d) = x1 at *
  generalize iC (ofDeep d) = x2 at *
  generalize iC (ofJoin d) = x3 at *
  generalize ofErr d = e at *
  have hp' : ¬ ((d.places.map PlaceT.cells).length : Int) > 60 := by rw [List.length_map]; omega
  have hm' : ¬ ((iC ms).length : Int) > 60 := by rw [iC_len]; omega
  show icall Try.prog cfg _ _ [.agg [.d (.str d.id), .d (.list (d.places.map PlaceT.cells))], .d (.list (iC ms)), .d (.list (iC fs))] [] = _
  rw [icall_body rfl Try.func6]
  obtain ⟨lp, hlp⟩ : ∃ lp, lp = lpOf Try.prog cfg (icall Try.prog cfg k) Try.f6.ntmps 6 k (([] : Hp).map (·.1)) := ⟨_, rfl⟩
  rw [← hlp]
  conv => lhs; whnf
  refine nextK_of c1 ?_
  conv => lhs; whnf
  refine iteK_dec_f hp' ?_
  conv => lhs; whnf
  refine iteK_dec_f hp' ?_
  conv => lhs; whnf
  refine iteK_dec_f hp' ?_
  conv => lhs; whnf
  refine iteK_dec_f hp' ?_
  conv => lhs; whnf
  refine iteK_dec_f hm' ?_
  conv => lhs; whnf
  refine nextK_of c2 ?_
  conv => lhs; whnf
  refine iteK_bne_t he ?_
  conv => lhs; whnf
  refine nextK_of (works12 k (by omega)) ?_
  conv => lhs; whnf
  refine Eq.trans (b := some (Res.ret (AV.d (D.bool true)), [])) (by kernel_rfl) ?_
  rfl
theorem law6_g (d : DefT) (ho : d.Ok) (hs : d.Sm) (ms fs : List Int) (k : Nat) (hk : d.wt + 120000 < k) (hl : decide (weightD d 600 ≤ 600) = true) (hp : ¬ d.places.length > 60) (hm : ¬ ms.length > 60) (he : ofErr d = 0) : icall Try.prog cfg k 6 [d.av, .d (.list (iC ms)), .d (.list (iC fs))] [] = some (.ret (.d (.bool true)), []) := by
  obtain ⟨k, rfl⟩ : ∃ j, k = j + 1 := ⟨k - 1, by omega⟩
  have c1 := light12 d ho hs k (by omega)
  rw [hl] at c1
  have c2 := of10 d hs ho k (by omega)
  have hc : checkD d = 0 := by
    by_cases hc : checkD d = 0
    · exact hc
    · unfold ofErr at he; rw [if_neg hc] at he; exact absurd he hc
  obtain ⟨n1, n2, _⟩ := check_ok hc
  have hps := check_ps hc
  have hok := rowsR_ok (ps := d.places) n2 (fun p hp => (check_out hc p hp).1)
  have hK := closed_of he
  have hde : ofDeep d = rowD (rowsR d.places).1.rows := by
    rw [(ref_same d).2.1, refDeep, ← ref_err, if_pos he]
  have hdl : (ofDeep d).length = d.places.length := by rw [hde, rowD, List.length_map, hok.len.1]
  have h1p : ∀ p, d.places[0]? = some p → p.kind = 1 := fun p hp => (check_start hc hp).2 rfl
  rw [he] at c2
  have hL := fun lf st => gmFst d.id d.places d.places.length hps n1 n2 (check_out hc) hK ms fs (ofFork d) (ofDeep d) (ofJoin d) hde (by omega) k (by omega) h1p rfl 0 rfl lf st
  unfold shV at c2
  generalize ofFork d = x1 at *
  generalize ofDeep d = x2 at *
  generalize ofJoin d = x3 at *
  have hp' : ¬ ((d.places.map PlaceT.cells).length : Int) > 60 := by rw [List.length_map]; omega
  have hm' : ¬ ((iC ms).length : Int) > 60 := by rw [iC_len]; omega
  have hdl' : ((iC x2).length : Int) = ((d.places.map PlaceT.cells).length : Int) := by rw [iC_len, List.length_map, hdl]
  clear hok hK hde h1p
  show icall Try.prog cfg _ _ [.agg [.d (.str d.id), .d (.list (d.places.map PlaceT.cells))], .d (.list (iC ms)), .d (.list (iC fs))] [] = _
  rw [icall_body rfl Try.func6]
  obtain ⟨lp, hlp⟩ : ∃ lp, lp = lpOf Try.prog cfg (icall Try.prog cfg k) Try.f6.ntmps 6 k (([] : Hp).map (·.1)) := ⟨_, rfl⟩
  rw [← hlp]
  rw [← (show lp = lpOf Try.prog cfg (icall Try.prog cfg k) Try.f6.ntmps 6 k (([] : Hp).map (·.1)) from hlp)] at hL
  conv => lhs; whnf
  refine nextK_of c1 ?_
  conv => lhs; whnf
  refine iteK_dec_f hp' ?_
  conv => lhs; whnf
  refine iteK_dec_f hp' ?_
  conv => lhs; whnf
  refine iteK_dec_f hp' ?_
  conv => lhs; whnf
  refine iteK_dec_f hp' ?_
  conv => lhs; whnf
  refine iteK_dec_f hm' ?_
  conv => lhs; whnf
  refine nextK_of c2 ?_
  conv => lhs; whnf
  refine iteK_bne_f hdl' ?_
  conv => lhs; whnf
  refine nextK_of (loop_at hlp (hL k _ (by omega) rfl)) ?_
  conv => lhs; whnf
  refine nextK_of (works12 k (by omega)) ?_
  conv => lhs; whnf
  refine Eq.trans (b := some (Res.ret (AV.d (D.bool true)), [])) (by kernel_rfl) ?_
  rfl
theorem law6 (d : DefT) (ho : d.Ok) (hs : d.Sm) (ms : List Int) (hm1 : ms.length ≤ maxLen) (hm2 : ms.length ≤ 140737488351232) (fs : List Int) (hf1 : fs.length ≤ maxLen) (hf2 : fs.length ≤ 140737488351232) (k : Nat) (hk : d.wt + 120000 < k) :
    icall Try.prog cfg k 6 [d.av, .d (.list (iC ms)), .d (.list (iC fs))] [] = some (.ret (.d (.bool true)), []) := by
  by_cases hl : decide (weightD d 600 ≤ 600) = true
  · by_cases hp : d.places.length > 60
    · exact law6_p d ho hs ms fs k hk hl hp
    · by_cases hm : ms.length > 60
      · exact law6_m d ho hs ms fs k hk hl hp hm
      · by_cases he : ofErr d = 0
        · exact law6_g d ho hs ms fs k hk hl hp hm he
        · exact law6_e d ho hs ms fs k hk hl hp hm he
  · exact law6_n d ho hs ms fs k hk (by simpa using hl)
end Go.Rx12
