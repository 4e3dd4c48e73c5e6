import Derived.Test.YtahnmikdpclbfaaRxCfg11
import Derived.Test.YtahnmikdpclbfaaRxTree
import Derived.Test.YtahnmikdpclbfaaR11Same59
import Derived.Test.YtahnmikdpclbfaaR11Same17
open Go Go.Rx Go.Proofs Go.Rx11 Go.RxTree
set_option maxRecDepth 1000000
set_option maxHeartbeats 4000000
set_option linter.unusedVariables false
namespace Go.Rx11
theorem loop58 {K : Fx × St → Option (Res × Hp)} (j : Nat) (a b : List T) {cA : CA} {lp : LP} (hA : cA = callA cfg (icall Try.prog cfg j)) (hl : lp = lpOf Try.prog cfg (icall Try.prog cfg j) Try.f58.ntmps 58 j (([] : Hp).map (·.1)))
    (hlen : a.length = b.length) (hm : a.length ≤ maxLen)
    (ih : ∀ x y : T, x ∈ a → y ∈ b → icall Try.prog cfg j 59 [x.av, y.av] [] = some (.ret (.d (.bool (sameT x y))), []))
    (hK1 : ∀ z, K (.exit 0, ⟨[(18, .d (.bool false)), (1, .d (.list (cellsL b))), (2, .fn 59 []), (15, .d (.list (cellsL a))), (16, .d (.int .i64 (cellsL a).length)), (17, .d (.int .i64 z))], []⟩) = some (.ret (.d (.bool true)), []))
    (hK2 : ∀ fr H c, fr.get 6 = .d (.bool c) → K (.ret, ⟨fr, H⟩) = some (.ret (.d (.bool c)), [])) :
    ∀ (m i : Nat) (z : Int) (lf : Nat) (st : St), a.length - i = m → i ≤ a.length → z = (i : Int) → m < lf → prune [] [1, 2, 15, 16, 17] st = some ⟨[(1, .d (.list (cellsL b))), (2, .fn 59 []), (15, .d (.list (cellsL a))), (16, .d (.int .i64 (cellsL a).length)), (17, .d (.int .i64 z))], []⟩ →
      loopK Try.prog cfg cA lp Try.f58.ntmps 58 [] (bodyAt Try.f58 4) lf st K = some (.ret (.d (.bool (sameL (a.drop i) (b.drop i)))), []) := by
  intro m
  induction m with
  | zero =>
    intro i z lf st hi hle hz hlf hp
    obtain ⟨n, rfl⟩ : ∃ n, lf = n + 1 := ⟨lf - 1, by omega⟩
    refine loop_step hp ?_
    have hend : decide (z < ((cellsL a).length : Int)) = false := by rw [cellsL_len]; simp; omega
    conv => lhs; whnf
    refine iteK_f hend ?_
    rw [hend]
    conv => lhs; whnf
    refine (hK1 z).trans ?_
    rw [List.drop_eq_nil_of_le (by omega), List.drop_eq_nil_of_le (by omega)]; rfl
  | succ m ihm =>
    intro i z lf st hi hle hz hlf hp
    obtain ⟨n, rfl⟩ : ∃ n, lf = n + 1 := ⟨lf - 1, by omega⟩
    refine loop_step hp ?_
    have hend : decide (z < ((cellsL a).length : Int)) = true := by rw [cellsL_len]; simp; omega
    have hx : a[i]? = some a[i] := List.getElem?_eq_getElem (by omega)
    have hy : b[i]? = some b[i] := List.getElem?_eq_getElem (by omega)
    generalize a[i] = x at hx
    generalize b[i] = y at hy
    conv => lhs; whnf
    refine iteK_t hend ?_
    rw [hend]
    conv => lhs; whnf
    refine nextK_of (aop_ix rfl rfl rfl rfl (ixL_at' hz (cellsL_get _ _ _ hx) rfl)) ?_
    conv => lhs; whnf
    refine nextK_of (aop_ix rfl rfl rfl rfl (ixL_at' hz (cellsL_get _ _ _ hy) rfl)) ?_
    conv => lhs; whnf
    have hc : ∀ d H, cA d 59 [x.av, y.av] H = some (.ret (.d (.bool (sameT x y))), H) := fun d H => by
      rw [hA]; exact callA_plain (ih x y (List.mem_of_getElem? hx) (List.mem_of_getElem? hy)) rfl rfl
    refine nextK_of (hc _ _) ?_
    conv => lhs; whnf
    refine iteK_of (fun h5 => ?_) (fun h5 => ?_) <;> rw [h5]
    · conv => lhs; whnf
      refine (hK2 _ _ false rfl).trans ?_
      rw [sameL_drop hx hy]
      simp at h5
      simp [h5]
    · conv => lhs; whnf
      refine (ihm (i + 1) _ n _ (by omega) (by omega) (wrap_up hz (by omega)) (by omega) rfl).trans ?_
      rw [sameL_drop hx hy]
      simp at h5
      simp [h5]
theorem equal58 (a b : List T) (ha : a.length ≤ maxLen) (hok : OkL a) (k : Nat) (hk : wtL a < k) : icall Try.prog cfg k 58 [.d (.list (cellsL a)), .d (.list (cellsL b)), .fn 59 []] [] = some (.ret (.d (.bool (sameL a b))), []) := by
  obtain ⟨k, rfl⟩ : ∃ j, k = j + 1 := ⟨k - 1, by omega⟩
  rw [icall_body rfl Try.func58]
  obtain ⟨cA, hcA⟩ : ∃ cA, cA = callA cfg (icall Try.prog cfg k) := ⟨_, rfl⟩
  obtain ⟨lp, hlp⟩ : ∃ lp, lp = lpOf Try.prog cfg (icall Try.prog cfg k) Try.f58.ntmps 58 k (([] : Hp).map (·.1)) := ⟨_, rfl⟩
  rw [← hcA, ← hlp]
  conv => lhs; whnf
  refine iteK_of (fun h4 => ?_) (fun h4 => ?_) <;> rw [h4]
  · refine Eq.trans (b := some (.ret (.d (.bool false)), [])) (by kernel_rfl) ?_
    simp [cellsL_len] at h4
    simp [sameL_len (a := a) (b := b) (by omega)]
  · conv => lhs; whnf
    refine loop_go hcA hlp ?_
    have hlen : a.length = b.length := by simp [cellsL_len] at h4; omega
    have hw := wtL_len a
    refine (loop58 k a b hcA hlp hlen ha (fun x y hx hy => same59 _ x y (Nat.le_refl _) ?_ k ?_) (fun z => rfl) (fun fr H c h => ?_) a.length 0 0 k _ rfl (Nat.zero_le _) rfl (by omega) rfl).trans ?_
    · exact OkL_mem hok hx
    · have := wtL_mem _ _ hx; omega
    · refine Eq.trans (b := (finR [] (cfg.ownR 58) H (fr.get 6)).map fun x => (Res.ret x.1, x.2)) (by kernel_rfl) ?_
      rw [h, fin_d]; rfl
    · rfl
theorem trees57 (a b : List T) (ha : a.length ≤ maxLen) (hok : OkL a) (k : Nat) (hk : wtL a + 1 < k) : icall Try.prog cfg k 57 [.d (.list (cellsL a)), .d (.list (cellsL b))] [] = some (.ret (.d (.bool (sameL a b))), []) := by
  obtain ⟨k, rfl⟩ : ∃ j, k = j + 1 := ⟨k - 1, by omega⟩
  rw [icall_body rfl Try.func57]
  have hc : ∀ d H, callA cfg (icall Try.prog cfg k) d 58 [.d (.list (cellsL a)), .d (.list (cellsL b)), .fn 59 []] H = some (.ret (.d (.bool (sameL a b))), H) := fun d H => callA_plain (equal58 a b ha hok k (by omega)) rfl rfl
  obtain ⟨cA, hcA⟩ : ∃ cA, cA = callA cfg (icall Try.prog cfg k) := ⟨_, rfl⟩
  rw [← hcA] at hc ⊢
  conv => lhs; whnf
  refine nextK_of (hc _ _) ?_
  kernel_rfl
end Go.Rx11
