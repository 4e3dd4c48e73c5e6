import Derived.Test.YtahnmikdpclbfaaRxCfg11
import Derived.Test.YtahnmikdpclbfaaRxDef
import Derived.Test.YtahnmikdpclbfaaR11F63
open Go Go.Rx Go.Proofs Go.Rx11 Go.RxTree
set_option maxRecDepth 1000000
set_option maxHeartbeats 4000000
set_option linter.unusedVariables false
namespace Go.Rx11
theorem fin_dC (own : Bool) (H : Hp) (x : D) : finR [.cell (.arg 2) 0] own ((.cell (.arg 2) 0, .cells [.fn 57 []]) :: H) (.d x) = some (.d x, trH (.cell (.arg 2) 0)) := by
  cases own <;> kernel_rfl
theorem hand63 {j : Nat} {x y : FlowT} (h : icall Try.prog cfg j 63 [x.av, y.av, .ptr (.arg 2) 0] (trH (.arg 2)) = some (.ret (.d (.bool (sameF x y))), trH (.arg 2))) (d : Nat) : callA cfg (icall Try.prog cfg j) d 63 [x.av, y.av, .ptr (.cell (.arg 2) 0) 0] [(.slot 9, .cells [.d (.int .i64 y.to), .d (.list (cellsL y.iff))]), (.slot 9, .cells [.d (.int .i64 0), .nilsl]), (.slot 8, .cells [.d (.int .i64 x.to), .d (.list (cellsL x.iff))]), (.slot 8, .cells [.d (.int .i64 0), .nilsl]), ((.cell (.arg 2) 0), .cells [.fn 57 []])] = some (.ret (.d (.bool (sameF x y))), [((.cell (.arg 2) 0), .cells [.fn 57 []]), (.slot 9, .cells [.d (.int .i64 y.to), .d (.list (cellsL y.iff))]), (.slot 9, .cells [.d (.int .i64 0), .nilsl]), (.slot 8, .cells [.d (.int .i64 x.to), .d (.list (cellsL x.iff))]), (.slot 8, .cells [.d (.int .i64 0), .nilsl])]) := by
  refine callA_of (args1 := [x.av, y.av, .ptr (.cell (.arg 2) 0) 0]) (H1 := [(.slot 9, .cells [.d (.int .i64 y.to), .d (.list (cellsL y.iff))]), (.slot 9, .cells [.d (.int .i64 0), .nilsl]), (.slot 8, .cells [.d (.int .i64 x.to), .d (.list (cellsL x.iff))]), (.slot 8, .cells [.d (.int .i64 0), .nilsl]), ((.cell (.arg 2) 0), .cells [.fn 57 []])]) (g := [((.cell (.arg 2) 0), (.arg 2, 0))]) (b := [(.arg 2, ((.cell (.arg 2) 0), 0))]) h (by kernel_rfl) (by kernel_rfl) (by kernel_rfl) (by kernel_rfl) (by kernel_rfl) (by kernel_rfl) (by kernel_rfl) (by kernel_rfl) (by kernel_rfl)
theorem loop62 {K : Fx × St → Option (Res × Hp)} (j : Nat) (a b : List FlowT) {cA : CA} {lp : LP} (hA : cA = callA cfg (icall Try.prog cfg j)) (hl : lp = lpOf Try.prog cfg (icall Try.prog cfg j) Try.f62.ntmps 62 j ((trH (.cell (.arg 2) 0)).map (·.1)))
    (hlen : a.length = b.length) (hm : a.length ≤ maxLen)
    (ih : ∀ x y : FlowT, x ∈ a → y ∈ b → icall Try.prog cfg j 63 [x.av, y.av, .ptr (.arg 2) 0] (trH (.arg 2)) = some (.ret (.d (.bool (sameF x y))), trH (.arg 2)))
    (hK1 : ∀ z, K (.exit 0, ⟨[(18, .d (.bool false)), (1, .d (.list (b.map FlowT.cells))), (2, .fn 63 [.ptr (.cell (.arg 2) 0) 0]), (15, .d (.list (a.map FlowT.cells))), (16, .d (.int .i64 (a.map FlowT.cells).length)), (17, .d (.int .i64 z))], trH (.cell (.arg 2) 0)⟩) = some (.ret (.d (.bool true)), trH (.cell (.arg 2) 0)))
    (hK2 : ∀ fr H c, fr.get 6 = .d (.bool c) → K (.ret, ⟨fr, ((.cell (.arg 2) 0), .cells [.fn 57 []]) :: H⟩) = some (.ret (.d (.bool c)), trH (.cell (.arg 2) 0))) :
    ∀ (m i : Nat) (z : Int) (lf : Nat) (st : St), a.length - i = m → i ≤ a.length → z = (i : Int) → m < lf → prune [(.cell (.arg 2) 0)] [1, 2, 15, 16, 17] st = some ⟨[(1, .d (.list (b.map FlowT.cells))), (2, .fn 63 [.ptr (.cell (.arg 2) 0) 0]), (15, .d (.list (a.map FlowT.cells))), (16, .d (.int .i64 (a.map FlowT.cells).length)), (17, .d (.int .i64 z))], trH (.cell (.arg 2) 0)⟩ →
      loopK Try.prog cfg cA lp Try.f62.ntmps 62 [(.cell (.arg 2) 0)] (bodyAt Try.f62 4) lf st K = some (.ret (.d (.bool (sameG sameF (a.drop i) (b.drop i)))), trH (.cell (.arg 2) 0)) := by
  intro m
  induction m with
  | zero =>
    intro i z lf st hi hle hz hlf hp
    obtain ⟨n, rfl⟩ : ∃ n, lf = n + 1 := ⟨lf - 1, by omega⟩
    refine loop_step hp ?_
    have hend : decide (z < ((a.map FlowT.cells).length : Int)) = false := by rw [List.length_map]; simp; omega
    conv => lhs; whnf
    refine iteK_f hend ?_
    rw [hend]
    conv => lhs; whnf
    refine (hK1 z).trans ?_
    rw [List.drop_eq_nil_of_le (by omega), List.drop_eq_nil_of_le (by omega)]; rfl
  | succ m ihm =>
    intro i z lf st hi hle hz hlf hp
    obtain ⟨n, rfl⟩ : ∃ n, lf = n + 1 := ⟨lf - 1, by omega⟩
    refine loop_step hp ?_
    have hend : decide (z < ((a.map FlowT.cells).length : Int)) = true := by rw [List.length_map]; simp; omega
    have hx : a[i]? = some a[i] := List.getElem?_eq_getElem (by omega)
    have hy : b[i]? = some b[i] := List.getElem?_eq_getElem (by omega)
    generalize a[i] = x at hx
    generalize b[i] = y at hy
    conv => lhs; whnf
    refine iteK_t hend ?_
    rw [hend]
    conv => lhs; whnf
    refine nextK_of (aop_ix rfl rfl rfl rfl (ixL_at' hz (flow_get hx) rfl)) ?_
    conv => lhs; whnf
    refine nextK_of (aop_ix rfl rfl rfl rfl (ixL_at' hz (flow_get hy) rfl)) ?_
    conv => lhs; whnf
    have hc := fun d => hand63 (ih x y (List.mem_of_getElem? hx) (List.mem_of_getElem? hy)) d
    rw [← hA] at hc
    refine nextK_of (hc _) ?_
    conv => lhs; whnf
    refine iteK_of (fun h5 => ?_) (fun h5 => ?_) <;> rw [h5]
    · conv => lhs; whnf
      refine (hK2 _ _ false rfl).trans ?_
      rw [sameG_drop hx hy]
      simp at h5
      simp [h5]
    · conv => lhs; whnf
      refine (ihm (i + 1) _ n _ (by omega) (by omega) (wrap_up hz (by omega)) (by omega) rfl).trans ?_
      rw [sameG_drop hx hy]
      simp at h5
      simp [h5]
theorem equal62 (a b : List FlowT) (ha : a.length ≤ maxLen) (hok : ∀ x ∈ a, x.Ok) (k : Nat) (hk : wtS FlowT.wt a < k) : icall Try.prog cfg k 62 [.d (.list (a.map FlowT.cells)), .d (.list (b.map FlowT.cells)), .fn 63 [.ptr (.cell (.arg 2) 0) 0]] (trH (.cell (.arg 2) 0)) = some (.ret (.d (.bool (sameG sameF a b))), trH (.cell (.arg 2) 0)) := by
  obtain ⟨k, rfl⟩ : ∃ j, k = j + 1 := ⟨k - 1, by omega⟩
  rw [icall_body rfl Try.func62]
  obtain ⟨cA, hcA⟩ : ∃ cA, cA = callA cfg (icall Try.prog cfg k) := ⟨_, rfl⟩
  obtain ⟨lp, hlp⟩ : ∃ lp, lp = lpOf Try.prog cfg (icall Try.prog cfg k) Try.f62.ntmps 62 k ((trH (.cell (.arg 2) 0)).map (·.1)) := ⟨_, rfl⟩
  rw [← hcA, ← hlp]
  conv => lhs; whnf
  refine iteK_of (fun h4 => ?_) (fun h4 => ?_) <;> rw [h4]
  · refine Eq.trans (b := some (.ret (.d (.bool false)), trH (.cell (.arg 2) 0))) (by kernel_rfl) ?_
    simp at h4
    simp [sameG_len (f := sameF) (a := a) (b := b) (by omega)]
  · conv => lhs; whnf
    refine loop_go hcA hlp ?_
    have hlen : a.length = b.length := by simp at h4; omega
    have hw := wtS_len (w := FlowT.wt) a
    refine (loop62 k a b hcA hlp hlen ha (fun x y hx hy => same63 x y (hok x hx) k ?_) (fun z => ?_) (fun fr H c h => ?_) a.length 0 0 k _ rfl (Nat.zero_le _) rfl (by omega) rfl).trans ?_
    · have := wtS_mem (w := FlowT.wt) _ _ hx; omega
    · kernel_rfl
    · refine Eq.trans (b := (finR [(.cell (.arg 2) 0)] (cfg.ownR 62) (((.cell (.arg 2) 0), .cells [.fn 57 []]) :: H) (fr.get 6)).map fun x => (Res.ret x.1, x.2)) (by kernel_rfl) ?_
      rw [h, fin_dC]; rfl
    · rfl
end Go.Rx11
