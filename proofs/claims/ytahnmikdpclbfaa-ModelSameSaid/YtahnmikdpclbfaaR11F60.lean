import Derived.Test.YtahnmikdpclbfaaRxCfg11
import Derived.Test.YtahnmikdpclbfaaRxDef
import Derived.Test.YtahnmikdpclbfaaR11F61
import Derived.Test.YtahnmikdpclbfaaR11Df26
open Go Go.Rx Go.Proofs Go.Rx11 Go.RxTree
set_option maxRecDepth 1000000
set_option maxHeartbeats 4000000
set_option linter.unusedVariables false
namespace Go.Rx11
theorem hand61 {j : Nat} {x y : PlaceT} (h : icall Try.prog cfg j 61 [x.av, y.av, .ptr (.arg 2) 0] (trH (.arg 2)) = some (.ret (.d (.bool (sameP x y))), trH (.arg 2))) (d : Nat) : callA cfg (icall Try.prog cfg j) d 61 [x.av, y.av, .ptr (.cell (.arg 2) 0) 0] [(.slot 9, .cells [.d (.int .i64 y.kind), .d (.str y.name), .d (.int .i64 y.n), .d (.list (cellsL y.arg)), .d (.list (y.out.map FlowT.cells))]), (.slot 9, .cells [.d (.int .i64 0), .d (.str []), .d (.int .i64 0), .nilsl, .nilsl]), (.slot 8, .cells [.d (.int .i64 x.kind), .d (.str x.name), .d (.int .i64 x.n), .d (.list (cellsL x.arg)), .d (.list (x.out.map FlowT.cells))]), (.slot 8, .cells [.d (.int .i64 0), .d (.str []), .d (.int .i64 0), .nilsl, .nilsl]), ((.cell (.arg 2) 0), .cells [.fn 57 []])] = some (.ret (.d (.bool (sameP x y))), [((.cell (.arg 2) 0), .cells [.fn 57 []]), (.slot 9, .cells [.d (.int .i64 y.kind), .d (.str y.name), .d (.int .i64 y.n), .d (.list (cellsL y.arg)), .d (.list (y.out.map FlowT.cells))]), (.slot 9, .cells [.d (.int .i64 0), .d (.str []), .d (.int .i64 0), .nilsl, .nilsl]), (.slot 8, .cells [.d (.int .i64 x.kind), .d (.str x.name), .d (.int .i64 x.n), .d (.list (cellsL x.arg)), .d (.list (x.out.map FlowT.cells))]), (.slot 8, .cells [.d (.int .i64 0), .d (.str []), .d (.int .i64 0), .nilsl, .nilsl])]) := by
  refine callA_of (args1 := [x.av, y.av, .ptr (.cell (.arg 2) 0) 0]) (H1 := [(.slot 9, .cells [.d (.int .i64 y.kind), .d (.str y.name), .d (.int .i64 y.n), .d (.list (cellsL y.arg)), .d (.list (y.out.map FlowT.cells))]), (.slot 9, .cells [.d (.int .i64 0), .d (.str []), .d (.int .i64 0), .nilsl, .nilsl]), (.slot 8, .cells [.d (.int .i64 x.kind), .d (.str x.name), .d (.int .i64 x.n), .d (.list (cellsL x.arg)), .d (.list (x.out.map FlowT.cells))]), (.slot 8, .cells [.d (.int .i64 0), .d (.str []), .d (.int .i64 0), .nilsl, .nilsl]), ((.cell (.arg 2) 0), .cells [.fn 57 []])]) (g := [((.cell (.arg 2) 0), (.arg 2, 0))]) (b := [(.arg 2, ((.cell (.arg 2) 0), 0))]) h (by kernel_rfl) (by kernel_rfl) (by kernel_rfl) (by kernel_rfl) (by kernel_rfl) (by kernel_rfl) (by kernel_rfl) (by kernel_rfl) (by kernel_rfl)
theorem loop60 {K : Fx × St → Option (Res × Hp)} (j : Nat) (a b : List PlaceT) {cA : CA} {lp : LP} (hA : cA = callA cfg (icall Try.prog cfg j)) (hl : lp = lpOf Try.prog cfg (icall Try.prog cfg j) Try.f60.ntmps 60 j ((trH (.cell (.arg 2) 0)).map (·.1)))
    (hlen : a.length = b.length) (hm : a.length ≤ maxLen)
    (ih : ∀ x y : PlaceT, x ∈ a → y ∈ b → icall Try.prog cfg j 61 [x.av, y.av, .ptr (.arg 2) 0] (trH (.arg 2)) = some (.ret (.d (.bool (sameP x y))), trH (.arg 2)))
    (hK1 : ∀ z, K (.exit 0, ⟨[(18, .d (.bool false)), (1, .d (.list (b.map PlaceT.cells))), (2, .fn 61 [.ptr (.cell (.arg 2) 0) 0]), (15, .d (.list (a.map PlaceT.cells))), (16, .d (.int .i64 (a.map PlaceT.cells).length)), (17, .d (.int .i64 z))], trH (.cell (.arg 2) 0)⟩) = some (.ret (.d (.bool true)), trH (.cell (.arg 2) 0)))
    (hK2 : ∀ fr H c, fr.get 6 = .d (.bool c) → K (.ret, ⟨fr, ((.cell (.arg 2) 0), .cells [.fn 57 []]) :: H⟩) = some (.ret (.d (.bool c)), trH (.cell (.arg 2) 0))) :
    ∀ (m i : Nat) (z : Int) (lf : Nat) (st : St), a.length - i = m → i ≤ a.length → z = (i : Int) → m < lf → prune [(.cell (.arg 2) 0)] [1, 2, 15, 16, 17] st = some ⟨[(1, .d (.list (b.map PlaceT.cells))), (2, .fn 61 [.ptr (.cell (.arg 2) 0) 0]), (15, .d (.list (a.map PlaceT.cells))), (16, .d (.int .i64 (a.map PlaceT.cells).length)), (17, .d (.int .i64 z))], trH (.cell (.arg 2) 0)⟩ →
      loopK Try.prog cfg cA lp Try.f60.ntmps 60 [(.cell (.arg 2) 0)] (bodyAt Try.f60 4) lf st K = some (.ret (.d (.bool (sameG sameP (a.drop i) (b.drop i)))), trH (.cell (.arg 2) 0)) := by
  intro m
  induction m with
  | zero =>
    intro i z lf st hi hle hz hlf hp
    obtain ⟨n, rfl⟩ : ∃ n, lf = n + 1 := ⟨lf - 1, by omega⟩
    refine loop_step hp ?_
    have hend : decide (z < ((a.map PlaceT.cells).length : Int)) = false := by rw [List.length_map]; simp; omega
    conv => lhs; whnf
    refine iteK_f hend ?_
    rw [hend]
    conv => lhs; whnf
    refine (hK1 z).trans ?_
    rw [List.drop_eq_nil_of_le (by omega), List.drop_eq_nil_of_le (by omega)]; rfl
  | succ m ihm =>
    intro i z lf st hi hle hz hlf hp
    obtain ⟨n, rfl⟩ : ∃ n, lf = n + 1 := ⟨lf - 1, by omega⟩
    refine loop_step hp ?_
    have hend : decide (z < ((a.map PlaceT.cells).length : Int)) = true := by rw [List.length_map]; simp; omega
    have hx : a[i]? = some a[i] := List.getElem?_eq_getElem (by omega)
    have hy : b[i]? = some b[i] := List.getElem?_eq_getElem (by omega)
    generalize a[i] = x at hx
    generalize b[i] = y at hy
    conv => lhs; whnf
    refine iteK_t hend ?_
    rw [hend]
    conv => lhs; whnf
    refine nextK_of (aop_ix rfl rfl rfl rfl (ixL_at' hz (place_get hx) rfl)) ?_
    conv => lhs; whnf
    refine nextK_of (aop_ix rfl rfl rfl rfl (ixL_at' hz (place_get hy) rfl)) ?_
    conv => lhs; whnf
    have hc := fun d => hand61 (ih x y (List.mem_of_getElem? hx) (List.mem_of_getElem? hy)) d
    rw [← hA] at hc
    refine nextK_of (hc _) ?_
    conv => lhs; whnf
    refine iteK_of (fun h5 => ?_) (fun h5 => ?_) <;> rw [h5]
    · conv => lhs; whnf
      refine (hK2 _ _ false rfl).trans ?_
      rw [sameG_drop hx hy]
      simp at h5
      simp [h5]
    · conv => lhs; whnf
      refine (ihm (i + 1) _ n _ (by omega) (by omega) (wrap_up hz (by omega)) (by omega) rfl).trans ?_
      rw [sameG_drop hx hy]
      simp at h5
      simp [h5]
theorem equal60 (a b : List PlaceT) (ha : a.length ≤ maxLen) (hok : ∀ x ∈ a, x.Ok) (k : Nat) (hk : wtS PlaceT.wt a < k) : icall Try.prog cfg k 60 [.d (.list (a.map PlaceT.cells)), .d (.list (b.map PlaceT.cells)), .fn 61 [.ptr (.cell (.arg 2) 0) 0]] (trH (.cell (.arg 2) 0)) = some (.ret (.d (.bool (sameG sameP a b))), trH (.cell (.arg 2) 0)) := by
  obtain ⟨k, rfl⟩ : ∃ j, k = j + 1 := ⟨k - 1, by omega⟩
  rw [icall_body rfl Try.func60]
  obtain ⟨cA, hcA⟩ : ∃ cA, cA = callA cfg (icall Try.prog cfg k) := ⟨_, rfl⟩
  obtain ⟨lp, hlp⟩ : ∃ lp, lp = lpOf Try.prog cfg (icall Try.prog cfg k) Try.f60.ntmps 60 k ((trH (.cell (.arg 2) 0)).map (·.1)) := ⟨_, rfl⟩
  rw [← hcA, ← hlp]
  conv => lhs; whnf
  refine iteK_of (fun h4 => ?_) (fun h4 => ?_) <;> rw [h4]
  · refine Eq.trans (b := some (.ret (.d (.bool false)), trH (.cell (.arg 2) 0))) (by kernel_rfl) ?_
    simp at h4
    simp [sameG_len (f := sameP) (a := a) (b := b) (by omega)]
  · conv => lhs; whnf
    refine loop_go hcA hlp ?_
    have hlen : a.length = b.length := by simp at h4; omega
    have hw := wtS_len (w := PlaceT.wt) a
    refine (loop60 k a b hcA hlp hlen ha (fun x y hx hy => same61 x y (hok x hx) k ?_) (fun z => ?_) (fun fr H c h => ?_) a.length 0 0 k _ rfl (Nat.zero_le _) rfl (by omega) rfl).trans ?_
    · have := wtS_mem (w := PlaceT.wt) _ _ hx; omega
    · kernel_rfl
    · refine Eq.trans (b := (finR [(.cell (.arg 2) 0)] (cfg.ownR 60) (((.cell (.arg 2) 0), .cells [.fn 57 []]) :: H) (fr.get 6)).map fun x => (Res.ret x.1, x.2)) (by kernel_rfl) ?_
      rw [h, fin_dC]; rfl
    · rfl
theorem hand60 {j : Nat} {x y : DefT} (h : icall Try.prog cfg j 60 [.d (.list (x.places.map PlaceT.cells)), .d (.list (y.places.map PlaceT.cells)), .fn 61 [.ptr (.cell (.arg 2) 0) 0]] (trH (.cell (.arg 2) 0)) = some (.ret (.d (.bool (sameG sameP x.places y.places))), trH (.cell (.arg 2) 0))) (d : Nat) :
    callA cfg (icall Try.prog cfg j) d 60 [.d (.list (x.places.map PlaceT.cells)), .d (.list (y.places.map PlaceT.cells)), .fn 61 [.ptr (.slot 5) 0]] [(.slot 5, .cells [.fn 57 []]), (.slot 5, .cells [.undef]), dfH 3 y, dfH 2 x] = some (.ret (.d (.bool (sameG sameP x.places y.places))), [(.slot 5, .cells [.fn 57 []]), dfH 3 y, dfH 2 x]) := by
  refine callA_of (args1 := [.d (.list (x.places.map PlaceT.cells)), .d (.list (y.places.map PlaceT.cells)), .fn 61 [.ptr (.slot 5) 0]]) (H1 := [(.slot 5, .cells [.fn 57 []]), (.slot 5, .cells [.undef]), dfH 3 y, dfH 2 x]) (g := [(.slot 5, (.cell (.arg 2) 0, 0))]) (b := [(.cell (.arg 2) 0, (.slot 5, 0))]) h (by kernel_rfl) (by kernel_rfl) (by kernel_rfl) (by kernel_rfl) (by kernel_rfl) (by kernel_rfl) (by kernel_rfl) (by kernel_rfl) (by kernel_rfl)
theorem same27 (a b : DefT) (ha : a.Ok) (k : Nat) (hk : a.wt < k) : icall Try.prog cfg k 27 [a.av, b.av] [] = some (.ret (.d (.bool (sameD a b))), []) := by
  obtain ⟨k, rfl⟩ : ∃ j, k = j + 1 := ⟨k - 1, by omega⟩
  obtain ⟨g1, g2, g3⟩ := ha
  unfold DefT.wt at hk
  rw [icall_body rfl Try.func27]
  obtain ⟨cA, hcA⟩ : ∃ cA, cA = callA cfg (icall Try.prog cfg k) := ⟨_, rfl⟩
  have hd := fun d => hand60 (equal60 a.places b.places g2 g3 k (by omega)) d
  rw [← hcA] at hd
  rw [← hcA, sameD]
  conv => lhs; whnf
  refine iteK_of (fun h1 => ?_) (fun h1 => ?_) <;> rw [h1]
  · conv => lhs; whnf
    refine nextK_of (hd _) ?_
    refine Eq.trans (b := some (.ret (.d (.bool (sameG sameP a.places b.places))), [])) (by kernel_rfl) ?_
    simp
  · refine Eq.trans (b := some (.ret (.d (.bool false)), [])) (by kernel_rfl) ?_
    simp
end Go.Rx11
