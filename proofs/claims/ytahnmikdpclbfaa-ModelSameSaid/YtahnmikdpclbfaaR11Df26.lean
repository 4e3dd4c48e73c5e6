import Derived.Test.YtahnmikdpclbfaaRxCfg11
import Derived.Test.YtahnmikdpclbfaaRxDef
import Derived.Test.YtahnmikdpclbfaaR11Pl56
open Go Go.Rx Go.Proofs Go.Rx11 Go.RxTree
set_option maxRecDepth 1000000
set_option maxHeartbeats 4000000
set_option linter.unusedVariables false
namespace Go.Rx11
abbrev dfH (s : Nat) (d : DefT) : Nm × AObj := (.slot s, .cells [.d (.str d.id), .d (.list (d.places.map PlaceT.cells))])
theorem loop26 {K : Fx × St → Option (Res × Hp)} (j : Nat) (a b : DefT) {cA : CA} {lp : LP} (hA : cA = callA cfg (icall Try.prog cfg j)) (hl : lp = lpOf Try.prog cfg (icall Try.prog cfg j) Try.f26.ntmps 26 j (([] : Hp).map (·.1)))
    (hlen : a.places.length = b.places.length) (hm : a.places.length ≤ maxLen)
    (ih : ∀ x y : PlaceT, x ∈ a.places → y ∈ b.places → icall Try.prog cfg j 56 [x.av, y.av] [] = some (.ret (.d (.bool (sameP x y))), []))
    (hK1 : ∀ z, K (.exit 0, ⟨[(24, .d (.bool false)), (23, .d (.int .i64 (a.places.map PlaceT.cells).length)), (22, .d (.list (a.places.map PlaceT.cells))), (21, .ptr (.slot 2) 1), (20, .d (.int .i64 z)), (2, .ptr (.slot 2) 0), (3, .ptr (.slot 3) 0), (5, .d (.int .i64 z))], [dfH 2 a, dfH 3 b]⟩) = some (.ret (.d (.bool true)), []))
    (hK2 : ∀ fr H c, fr.get 4 = .d (.bool c) → K (.ret, ⟨fr, H⟩) = some (.ret (.d (.bool c)), [])) :
    ∀ (m i : Nat) (z : Int) (lf : Nat) (st : St), a.places.length - i = m → i ≤ a.places.length → z = (i : Int) → m < lf → prune [] [2, 3, 5] st = some ⟨[(2, .ptr (.slot 2) 0), (3, .ptr (.slot 3) 0), (5, .d (.int .i64 z))], [dfH 2 a, dfH 3 b]⟩ →
      loopK Try.prog cfg cA lp Try.f26.ntmps 26 [] (bodyAt Try.f26 4) lf st K = some (.ret (.d (.bool (sameG sameP (a.places.drop i) (b.places.drop i)))), []) := by
  intro m
  induction m with
  | zero =>
    intro i z lf st hi hle hz hlf hp
    obtain ⟨n, rfl⟩ : ∃ n, lf = n + 1 := ⟨lf - 1, by omega⟩
    refine loop_step hp ?_
    have hend : decide (z < ((a.places.map PlaceT.cells).length : Int)) = false := by rw [List.length_map]; simp; omega
    conv => lhs; whnf
    refine iteK_f hend ?_
    rw [hend]
    conv => lhs; whnf
    refine (hK1 z).trans ?_
    rw [List.drop_eq_nil_of_le (by omega), List.drop_eq_nil_of_le (by omega)]; rfl
  | succ m ihm =>
    intro i z lf st hi hle hz hlf hp
    obtain ⟨n, rfl⟩ : ∃ n, lf = n + 1 := ⟨lf - 1, by omega⟩
    refine loop_step hp ?_
    have hend : decide (z < ((a.places.map PlaceT.cells).length : Int)) = true := by rw [List.length_map]; simp; omega
    have hx : a.places[i]? = some a.places[i] := List.getElem?_eq_getElem (by omega)
    have hy : b.places[i]? = some b.places[i] := List.getElem?_eq_getElem (by omega)
    generalize a.places[i] = x at hx
    generalize b.places[i] = y at hy
    conv => lhs; whnf
    refine iteK_t hend ?_
    rw [hend]
    conv => lhs; whnf
    refine iteO_t (by kernel_rfl) ?_
    conv => lhs; whnf
    refine nextK_of (aop_ix rfl rfl rfl rfl (ixL_at' hz (place_get hx) rfl)) ?_
    conv => lhs; whnf
    refine nextK_of (aop_ix rfl rfl rfl rfl (ixL_at' hz (place_get hy) rfl)) ?_
    conv => lhs; whnf
    have hc : ∀ d H, cA d 56 [x.av, y.av] H = some (.ret (.d (.bool (sameP x y))), H) := fun d H => by
      rw [hA]; exact callA_plain (ih x y (List.mem_of_getElem? hx) (List.mem_of_getElem? hy)) rfl rfl
    refine nextK_of (hc _ _) ?_
    conv => lhs; whnf
    refine iteO_t (by kernel_rfl) ?_
    conv => lhs; whnf
    refine iteK_of (fun h5 => ?_) (fun h5 => ?_) <;> rw [h5]
    · conv => lhs; whnf
      refine (hK2 _ _ false rfl).trans ?_
      rw [sameG_drop hx hy]
      simp at h5
      simp [h5]
    · conv => lhs; whnf
      refine (ihm (i + 1) _ n _ (by omega) (by omega) (wrap_up hz (by omega)) (by omega) rfl).trans ?_
      rw [sameG_drop hx hy]
      simp at h5
      simp [h5]

theorem same26 (a b : DefT) (ha : a.Ok) (k : Nat) (hk : a.wt < k) : icall Try.prog cfg k 26 [a.av, b.av] [] = some (.ret (.d (.bool (sameD a b))), []) := by
  obtain ⟨k, rfl⟩ : ∃ j, k = j + 1 := ⟨k - 1, by omega⟩
  obtain ⟨g1, g2, g3⟩ := ha
  unfold DefT.wt at hk
  rw [icall_body rfl Try.func26]
  obtain ⟨cA, hcA⟩ : ∃ cA, cA = callA cfg (icall Try.prog cfg k) := ⟨_, rfl⟩
  obtain ⟨lp, hlp⟩ : ∃ lp, lp = lpOf Try.prog cfg (icall Try.prog cfg k) Try.f26.ntmps 26 k (([] : Hp).map (·.1)) := ⟨_, rfl⟩
  rw [← hcA, ← hlp, sameD]
  conv => lhs; whnf
  refine iteK_of (fun h1 => ?_) (fun h1 => ?_) <;> rw [h1]
  · refine Eq.trans (b := some (.ret (.d (.bool false)), [])) (by kernel_rfl) ?_
    simp at h1; simp [h1]
  · conv => lhs; whnf
    refine iteK_of (fun h5 => ?_) (fun h5 => ?_) <;> rw [h5]
    · refine Eq.trans (b := some (.ret (.d (.bool false)), [])) (by kernel_rfl) ?_
      simp at h5
      simp [sameG_len (f := sameP) (a := a.places) (b := b.places) (by omega)]
    · conv => lhs; whnf
      refine loop_go hcA hlp ?_
      have hlen : a.places.length = b.places.length := by simp at h5; omega
      have hw := wtS_len (w := PlaceT.wt) a.places
      refine (loop26 k a b hcA hlp hlen g2 (fun x y hx hy => same56 x y (g3 x hx) k ?_) (fun z => rfl) (fun fr H c h => ?_) a.places.length 0 0 k _ rfl (Nat.zero_le _) rfl (by omega) rfl).trans ?_
      · have := wtS_mem (w := PlaceT.wt) _ _ hx; omega
      · refine Eq.trans (b := (finR [] (cfg.ownR 26) H (fr.get 4)).map fun x => (Res.ret x.1, x.2)) (by kernel_rfl) ?_
        rw [h, fin_d]; rfl
      · simp at h1
        simp [h1]
end Go.Rx11
