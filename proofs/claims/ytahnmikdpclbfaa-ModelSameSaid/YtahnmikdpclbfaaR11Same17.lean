import Derived.Test.YtahnmikdpclbfaaRxCfg11
import Derived.Test.YtahnmikdpclbfaaRxTree
open Go Go.Rx Go.Proofs Go.Rx11 Go.RxTree
set_option maxRecDepth 1000000
set_option maxHeartbeats 4000000
set_option linter.unusedVariables false
namespace Go.Rx11
theorem loop17 {K : Fx × St → Option (Res × Hp)} (j : Nat) (a b : T) {cA : CA} {lp : LP} (hA : cA = callA cfg (icall Try.prog cfg j)) (hl : lp = lpOf Try.prog cfg (icall Try.prog cfg j) Try.f17.ntmps 17 j (([] : Hp).map (·.1)))
    (hlen : a.kids.length = b.kids.length) (hm : a.kids.length ≤ maxLen)
    (ih : ∀ x y : T, x ∈ a.kids → y ∈ b.kids → icall Try.prog cfg j 17 [x.av, y.av] [] = some (.ret (.d (.bool (sameT x y))), []))
    (hK1 : ∀ z, K (.exit 0, ⟨[(38, .d (.bool false)), (37, .d (.int .i64 (cellsL a.kids).length)), (36, .d (.list (cellsL a.kids))), (35, .ptr (.slot 2) 3), (34, .d (.int .i64 z)), (2, .ptr (.slot 2) 0), (3, .ptr (.slot 3) 0), (5, .d (.int .i64 z))], [(.slot 2, .cells [.d (.int .i64 a.kind), .d (.int .i64 a.n), .d (.str a.name), .d (.list (cellsL a.kids))]), (.slot 3, .cells [.d (.int .i64 b.kind), .d (.int .i64 b.n), .d (.str b.name), .d (.list (cellsL b.kids))])]⟩) = some (.ret (.d (.bool true)), []))
    (hK2 : ∀ fr H c, fr.get 4 = .d (.bool c) → K (.ret, ⟨fr, H⟩) = some (.ret (.d (.bool c)), [])) :
    ∀ (m i : Nat) (z : Int) (lf : Nat) (st : St), a.kids.length - i = m → i ≤ a.kids.length → z = (i : Int) → m < lf → prune [] [2, 3, 5] st = some ⟨[(2, .ptr (.slot 2) 0), (3, .ptr (.slot 3) 0), (5, .d (.int .i64 z))], [(.slot 2, .cells [.d (.int .i64 a.kind), .d (.int .i64 a.n), .d (.str a.name), .d (.list (cellsL a.kids))]), (.slot 3, .cells [.d (.int .i64 b.kind), .d (.int .i64 b.n), .d (.str b.name), .d (.list (cellsL b.kids))])]⟩ →
      loopK Try.prog cfg cA lp Try.f17.ntmps 17 [] (bodyAt Try.f17 4) lf st K = some (.ret (.d (.bool (sameL (a.kids.drop i) (b.kids.drop i)))), []) := by
  intro m
  induction m with
  | zero =>
    intro i z lf st hi hle hz hlf hp
    obtain ⟨n, rfl⟩ : ∃ n, lf = n + 1 := ⟨lf - 1, by omega⟩
    refine loop_step hp ?_
    have hend : decide (z < ((cellsL a.kids).length : Int)) = false := by rw [cellsL_len]; simp; omega
    conv => lhs; whnf
    refine iteK_f hend ?_
    rw [hend]
    conv => lhs; whnf
    refine (hK1 z).trans ?_
    rw [List.drop_eq_nil_of_le (by omega), List.drop_eq_nil_of_le (by omega)]; rfl
  | succ m ihm =>
    intro i z lf st hi hle hz hlf hp
    obtain ⟨n, rfl⟩ : ∃ n, lf = n + 1 := ⟨lf - 1, by omega⟩
    refine loop_step hp ?_
    have hend : decide (z < ((cellsL a.kids).length : Int)) = true := by rw [cellsL_len]; simp; omega
    have hx : a.kids[i]? = some a.kids[i] := List.getElem?_eq_getElem (by omega)
    have hy : b.kids[i]? = some b.kids[i] := List.getElem?_eq_getElem (by omega)
    generalize a.kids[i] = x at hx
    generalize b.kids[i] = y at hy
    conv => lhs; whnf
    refine iteK_t hend ?_
    rw [hend]
    conv => lhs; whnf
    refine iteO_t (by kernel_rfl) ?_
    conv => lhs; whnf
    refine nextK_of (aop_ix rfl rfl rfl rfl (ixL_at' hz (cellsL_get _ _ _ hx) rfl)) ?_
    conv => lhs; whnf
    refine nextK_of (aop_ix rfl rfl rfl rfl (ixL_at' hz (cellsL_get _ _ _ hy) rfl)) ?_
    conv => lhs; whnf
    have hc : ∀ d H, cA d 17 [x.av, y.av] H = some (.ret (.d (.bool (sameT x y))), H) := fun d H => by
      rw [hA]; exact callA_plain (ih x y (List.mem_of_getElem? hx) (List.mem_of_getElem? hy)) rfl rfl
    refine nextK_of (hc _ _) ?_
    conv => lhs; whnf
    refine iteO_t (by kernel_rfl) ?_
    conv => lhs; whnf
    refine iteK_of (fun h5 => ?_) (fun h5 => ?_) <;> rw [h5]
    · conv => lhs; whnf
      refine (hK2 _ _ false rfl).trans ?_
      rw [sameL_drop hx hy]
      simp at h5
      simp [h5]
    · conv => lhs; whnf
      refine (ihm (i + 1) _ n _ (by omega) (by omega) (wrap_up hz (by omega)) (by omega) rfl).trans ?_
      rw [sameL_drop hx hy]
      simp at h5
      simp [h5]

theorem same17 : ∀ (n : Nat) (a b : T), a.wt ≤ n → a.Ok → ∀ k, a.wt < k → icall Try.prog cfg k 17 [a.av, b.av] [] = some (.ret (.d (.bool (sameT a b))), []) := by
  intro n
  induction n with
  | zero => intro a b h; rw [T.wt_eq] at h; omega
  | succ n ihn =>
  intro a b hn ha k hk
  obtain ⟨k, rfl⟩ : ∃ j, k = j + 1 := ⟨k - 1, by omega⟩
  have hwt := T.wt_eq a
  have hmax := ((T.ok_eq a).1 ha).2.2.2
  rw [icall_body rfl Try.func17]
  obtain ⟨cA, hcA⟩ : ∃ cA, cA = callA cfg (icall Try.prog cfg k) := ⟨_, rfl⟩
  obtain ⟨lp, hlp⟩ : ∃ lp, lp = lpOf Try.prog cfg (icall Try.prog cfg k) Try.f17.ntmps 17 k (([] : Hp).map (·.1)) := ⟨_, rfl⟩
  rw [← hcA, ← hlp, sameT_eq]
  conv => lhs; whnf
  refine iteK_of (fun h1 => ?_) (fun h1 => ?_) <;> rw [h1]
  · refine Eq.trans (b := some (.ret (.d (.bool false)), [])) (by kernel_rfl) ?_
    simp at h1; simp [h1]
  · conv => lhs; whnf
    refine iteK_of (fun h2 => ?_) (fun h2 => ?_) <;> rw [h2]
    · refine Eq.trans (b := some (.ret (.d (.bool false)), [])) (by kernel_rfl) ?_
      simp at h2; simp [h2]
    · conv => lhs; whnf
      refine iteK_of (fun h3 => ?_) (fun h3 => ?_) <;> rw [h3]
      · refine Eq.trans (b := some (.ret (.d (.bool false)), [])) (by kernel_rfl) ?_
        simp at h3; simp [h3]
      · conv => lhs; whnf
        refine iteK_of (fun h4 => ?_) (fun h4 => ?_) <;> rw [h4]
        · refine Eq.trans (b := some (.ret (.d (.bool false)), [])) (by kernel_rfl) ?_
          simp [cellsL_len] at h4
          simp [sameL_len (a := a.kids) (b := b.kids) (by omega)]
        · conv => lhs; whnf
          refine loop_go hcA hlp ?_
          have hlen : a.kids.length = b.kids.length := by simp [cellsL_len] at h4; omega
          have hw := wtL_len a.kids
          refine (loop17 k a b hcA hlp hlen hmax.1 (fun x y hx hy => ihn x y ?_ ?_ k ?_) (fun z => rfl) (fun fr H c h => ?_) a.kids.length 0 0 k _ rfl (Nat.zero_le _) rfl (by omega) rfl).trans ?_
          · have := wtL_mem _ _ hx; omega
          · exact OkL_mem hmax.2 hx
          · have := wtL_mem _ _ hx; omega
          · refine Eq.trans (b := (finR [] (cfg.ownR 17) H (fr.get 4)).map fun x => (Res.ret x.1, x.2)) (by kernel_rfl) ?_
            rw [h, fin_d]; rfl
          · simp at h1 h2 h3
            simp [h1, h2, h3]
end Go.Rx11
