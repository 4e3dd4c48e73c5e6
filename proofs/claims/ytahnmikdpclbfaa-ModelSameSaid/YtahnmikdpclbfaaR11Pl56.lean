import Derived.Test.YtahnmikdpclbfaaRxCfg11
import Derived.Test.YtahnmikdpclbfaaRxDef
import Derived.Test.YtahnmikdpclbfaaR11Tr84
open Go Go.Rx Go.Proofs Go.Rx11 Go.RxTree
set_option maxRecDepth 1000000
set_option maxHeartbeats 4000000
set_option linter.unusedVariables false
namespace Go.Rx11
abbrev plH (s : Nat) (p : PlaceT) : Nm × AObj := (.slot s, .cells [.d (.int .i64 p.kind), .d (.str p.name), .d (.int .i64 p.n), .d (.list (cellsL p.arg)), .d (.list (p.out.map FlowT.cells))])
theorem loop56 {K : Fx × St → Option (Res × Hp)} (j : Nat) (a b : PlaceT) {cA : CA} {lp : LP} (hA : cA = callA cfg (icall Try.prog cfg j)) (hl : lp = lpOf Try.prog cfg (icall Try.prog cfg j) Try.f56.ntmps 56 j (([] : Hp).map (·.1)))
    (hlen : a.out.length = b.out.length) (hm : a.out.length ≤ maxLen)
    (ih : ∀ x y : FlowT, x ∈ a.out → y ∈ b.out → icall Try.prog cfg j 84 [.d (.list (cellsL x.iff)), .d (.list (cellsL y.iff))] [] = some (.ret (.d (.bool (sameL x.iff y.iff))), []))
    (hK1 : ∀ z, K (.exit 0, ⟨[(46, .d (.bool false)), (45, .d (.int .i64 (a.out.map FlowT.cells).length)), (44, .d (.list (a.out.map FlowT.cells))), (43, .ptr (.slot 2) 4), (42, .d (.int .i64 z)), (2, .ptr (.slot 2) 0), (3, .ptr (.slot 3) 0), (5, .d (.int .i64 z))], [plH 2 a, plH 3 b]⟩) = some (.ret (.d (.bool true)), []))
    (hK2 : ∀ fr H c, fr.get 4 = .d (.bool c) → K (.ret, ⟨fr, H⟩) = some (.ret (.d (.bool c)), [])) :
    ∀ (m i : Nat) (z : Int) (lf : Nat) (st : St), a.out.length - i = m → i ≤ a.out.length → z = (i : Int) → m < lf → prune [] [2, 3, 5] st = some ⟨[(2, .ptr (.slot 2) 0), (3, .ptr (.slot 3) 0), (5, .d (.int .i64 z))], [plH 2 a, plH 3 b]⟩ →
      loopK Try.prog cfg cA lp Try.f56.ntmps 56 [] (bodyAt Try.f56 4) lf st K = some (.ret (.d (.bool (sameG sameF (a.out.drop i) (b.out.drop i)))), []) := by
  intro m
  induction m with
  | zero =>
    intro i z lf st hi hle hz hlf hp
    obtain ⟨n, rfl⟩ : ∃ n, lf = n + 1 := ⟨lf - 1, by omega⟩
    refine loop_step hp ?_
    have hend : decide (z < ((a.out.map FlowT.cells).length : Int)) = false := by rw [List.length_map]; simp; omega
    conv => lhs; whnf
    refine iteK_f hend ?_
    rw [hend]
    conv => lhs; whnf
    refine (hK1 z).trans ?_
    rw [List.drop_eq_nil_of_le (by omega), List.drop_eq_nil_of_le (by omega)]; rfl
  | succ m ihm =>
    intro i z lf st hi hle hz hlf hp
    obtain ⟨n, rfl⟩ : ∃ n, lf = n + 1 := ⟨lf - 1, by omega⟩
    refine loop_step hp ?_
    have hend : decide (z < ((a.out.map FlowT.cells).length : Int)) = true := by rw [List.length_map]; simp; omega
    have hx : a.out[i]? = some a.out[i] := List.getElem?_eq_getElem (by omega)
    have hy : b.out[i]? = some b.out[i] := List.getElem?_eq_getElem (by omega)
    generalize a.out[i] = x at hx
    generalize b.out[i] = y at hy
    conv => lhs; whnf
    refine iteK_t hend ?_
    rw [hend]
    conv => lhs; whnf
    refine iteO_t (by kernel_rfl) ?_
    conv => lhs; whnf
    refine nextK_of (aop_ix rfl rfl rfl rfl (ixL_at' hz (flow_get hx) rfl)) ?_
    conv => lhs; whnf
    refine nextK_of (aop_ix rfl rfl rfl rfl (ixL_at' hz (flow_get hy) rfl)) ?_
    conv => lhs; whnf
    have hc : ∀ d H, cA d 84 [.d (.list (cellsL x.iff)), .d (.list (cellsL y.iff))] H = some (.ret (.d (.bool (sameL x.iff y.iff))), H) := fun d H => by
      rw [hA]; exact callA_plain (ih x y (List.mem_of_getElem? hx) (List.mem_of_getElem? hy)) rfl rfl
    refine iteK_of (fun h4 => ?_) (fun h4 => ?_) <;> rw [h4]
    · conv => lhs; whnf
      refine iteO_t (by kernel_rfl) ?_
      conv => lhs; whnf
      refine (hK2 _ _ false rfl).trans ?_
      rw [sameG_drop hx hy]
      simp at h4
      simp [sameF, h4]
    · conv => lhs; whnf
      refine nextK_of (aop_ix rfl rfl rfl rfl (ixL_at' hz (flow_get hx) rfl)) ?_
      conv => lhs; whnf
      refine nextK_of (aop_ix rfl rfl rfl rfl (ixL_at' hz (flow_get hy) rfl)) ?_
      conv => lhs; whnf
      refine nextK_of (hc _ _) ?_
      conv => lhs; whnf
      refine iteO_t (by kernel_rfl) ?_
      conv => lhs; whnf
      refine iteK_of (fun h5 => ?_) (fun h5 => ?_) <;> rw [h5]
      · conv => lhs; whnf
        refine (hK2 _ _ false rfl).trans ?_
        rw [sameG_drop hx hy]
        simp at h5
        simp [sameF, h5]
      · conv => lhs; whnf
        refine (ihm (i + 1) _ n _ (by omega) (by omega) (wrap_up hz (by omega)) (by omega) rfl).trans ?_
        rw [sameG_drop hx hy]
        simp at h4 h5
        simp [sameF, h4, h5]
theorem same56 (a b : PlaceT) (ha : a.Ok) (k : Nat) (hk : a.wt < k) : icall Try.prog cfg k 56 [a.av, b.av] [] = some (.ret (.d (.bool (sameP a b))), []) := by
  obtain ⟨k, rfl⟩ : ∃ j, k = j + 1 := ⟨k - 1, by omega⟩
  obtain ⟨g1, g2, g3, g4, g5, g6, g7⟩ := ha
  unfold PlaceT.wt at hk
  rw [icall_body rfl Try.func56]
  obtain ⟨cA, hcA⟩ : ∃ cA, cA = callA cfg (icall Try.prog cfg k) := ⟨_, rfl⟩
  obtain ⟨lp, hlp⟩ : ∃ lp, lp = lpOf Try.prog cfg (icall Try.prog cfg k) Try.f56.ntmps 56 k (([] : Hp).map (·.1)) := ⟨_, rfl⟩
  have hc : ∀ d H, cA d 84 [.d (.list (cellsL a.arg)), .d (.list (cellsL b.arg))] H = some (.ret (.d (.bool (sameL a.arg b.arg))), H) := fun d H => by
    rw [hcA]; exact callA_plain (trees84 a.arg b.arg g4 g5 k (by omega)) rfl rfl
  rw [← hcA, ← hlp, sameP]
  conv => lhs; whnf
  refine iteK_of (fun h1 => ?_) (fun h1 => ?_) <;> rw [h1]
  · refine Eq.trans (b := some (.ret (.d (.bool false)), [])) (by kernel_rfl) ?_
    simp at h1; simp [h1]
  · conv => lhs; whnf
    refine iteK_of (fun h2 => ?_) (fun h2 => ?_) <;> rw [h2]
    · refine Eq.trans (b := some (.ret (.d (.bool false)), [])) (by kernel_rfl) ?_
      simp at h2; simp [h2]
    · conv => lhs; whnf
      refine iteK_of (fun h3 => ?_) (fun h3 => ?_) <;> rw [h3]
      · refine Eq.trans (b := some (.ret (.d (.bool false)), [])) (by kernel_rfl) ?_
        simp at h3; simp [h3]
      · conv => lhs; whnf
        refine nextK_of (hc _ _) ?_
        conv => lhs; whnf
        refine iteK_of (fun h4 => ?_) (fun h4 => ?_) <;> rw [h4]
        · refine Eq.trans (b := some (.ret (.d (.bool false)), [])) (by kernel_rfl) ?_
          simp at h4; simp [h4]
        · conv => lhs; whnf
          refine iteK_of (fun h5 => ?_) (fun h5 => ?_) <;> rw [h5]
          · refine Eq.trans (b := some (.ret (.d (.bool false)), [])) (by kernel_rfl) ?_
            simp at h5
            simp [sameG_len (f := sameF) (a := a.out) (b := b.out) (by omega)]
          · conv => lhs; whnf
            refine loop_go hcA hlp ?_
            have hlen : a.out.length = b.out.length := by simp at h5; omega
            have hw := wtS_len (w := FlowT.wt) a.out
            refine (loop56 k a b hcA hlp hlen g6 (fun x y hx hy => trees84 x.iff y.iff (g7 x hx).2.1 (g7 x hx).2.2 k ?_) (fun z => rfl) (fun fr H c h => ?_) a.out.length 0 0 k _ rfl (Nat.zero_le _) rfl (by omega) rfl).trans ?_
            · have := wtS_mem (w := FlowT.wt) _ _ hx; unfold FlowT.wt at this; unfold FlowT.wt at hk; omega
            · refine Eq.trans (b := (finR [] (cfg.ownR 56) H (fr.get 4)).map fun x => (Res.ret x.1, x.2)) (by kernel_rfl) ?_
              rw [h, fin_d]; rfl
            · simp at h1 h2 h3 h4
              simp [h1, h2, h3, h4]
end Go.Rx11
