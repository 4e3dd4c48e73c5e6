import Derived.Test.YtahnmikdpclbfaaR11Wt
import Derived.Test.YtahnmikdpclbfaaR11Pl56
import Derived.Test.YtahnmikdpclbfaaR11Df26
open Go Go.Rx Go.Proofs Go.Rx11 Go.RxTree
set_option maxRecDepth 1000000
set_option maxHeartbeats 4000000
set_option linter.unusedVariables false
namespace Go.Rx11
theorem loop28a {K : Fx × St → Option (Res × Hp)} (j : Nat) (d : DefT) (p : PlaceT) (most i0 : Int) {cA : CA} {lp : LP} (hA : cA = callA cfg (icall Try.prog cfg j))
    (hm : p.arg.length ≤ maxLen)
    (ih : ∀ y : T, y ∈ p.arg → ∀ q : Int, ∃ r, icall Try.prog cfg j 14 [y.av, .d (.int .i64 q)] [] = some (.ret (.d (.int .i64 r)), []))
    (hK1 : ∀ x0 x1 x2 x3 x4 x5 x6 x7 x8 x9 n z, Num (K (.exit 2, ⟨[(52, x0), (51, x1), (50, x2), (49, x3), (48, x4), (47, x5), (46, x6), (45, x7), (44, x8), (43, x9), (1, .d (.int .i64 most)), (2, .ptr (.slot 2) 0), (5, .d (.int .i64 n)), (6, .d (.int .i64 i0)), (7, .ptr (.slot 7) 0), (8, .d (.int .i64 z))], [dfH 2 d, plH 7 p]⟩))) :
    ∀ (m i : Nat) (z n : Int) (lf : Nat) (st : St), p.arg.length - i = m → i ≤ p.arg.length → z = (i : Int) → m < lf → prune [] [1, 2, 5, 6, 7, 8] st = some ⟨[(1, .d (.int .i64 most)), (2, .ptr (.slot 2) 0), (5, .d (.int .i64 n)), (6, .d (.int .i64 i0)), (7, .ptr (.slot 7) 0), (8, .d (.int .i64 z))], [dfH 2 d, plH 7 p]⟩ →
      Num (loopK Try.prog cfg cA lp Try.f28.ntmps 28 [] (bodyAt Try.f28 8) lf st K) := by
  intro m
  induction m with
  | zero =>
    intro i z n lf st hi hle hz hlf hp
    obtain ⟨lf, rfl⟩ : ∃ n, lf = n + 1 := ⟨lf - 1, by omega⟩
    refine num_step hp ?_
    have hend : decide (z < ((cellsL p.arg).length : Int)) = false := by rw [cellsL_len]; simp; omega
    conv => arg 1; whnf
    refine num_if (fun h => by rw [hend] at h; cases h) (fun _ => ?_)
    rw [hend]
    conv => arg 1; whnf
    exact hK1 _ _ _ _ _ _ _ _ _ _ _ _
  | succ m ihm =>
    intro i z n lf st hi hle hz hlf hp
    obtain ⟨lf, rfl⟩ : ∃ n, lf = n + 1 := ⟨lf - 1, by omega⟩
    refine num_step hp ?_
    have hend : decide (z < ((cellsL p.arg).length : Int)) = true := by rw [cellsL_len]; simp; omega
    have hx : p.arg[i]? = some p.arg[i] := List.getElem?_eq_getElem (by omega)
    generalize p.arg[i] = y at hx
    conv => arg 1; whnf
    refine num_if (fun _ => ?_) (fun h => by rw [hend] at h; cases h)
    rw [hend]
    conv => arg 1; whnf
    refine num_if (fun h2 => ?_) (fun h2 => ?_) <;> rw [h2]
    · conv => arg 1; whnf
      refine num_next (aop_ix rfl rfl rfl rfl (ixL_at' hz (cellsL_get _ _ _ hx) rfl)) ?_
      conv => arg 1; whnf
      obtain ⟨r, hr⟩ := ih y (List.mem_of_getElem? hx) most
      have hc : ∀ d H, cA d 14 [y.av, .d (.int .i64 most)] H = some (.ret (.d (.int .i64 r)), H) := fun d H => by
        rw [hA]; exact callA_plain hr rfl rfl
      refine num_next (hc _ _) ?_
      conv => arg 1; whnf
      exact ihm (i + 1) _ _ lf _ (by omega) (by omega) (wrap_up hz (by omega)) (by omega) rfl
    · conv => arg 1; whnf
      exact hK1 _ _ _ _ _ _ _ _ _ _ _ _
theorem loop28c {K : Fx × St → Option (Res × Hp)} (j : Nat) (d : DefT) (p : PlaceT) (f : FlowT) (wi : Nat) (w : Int) (hw : w = (wi : Int)) (hf : p.out[wi]? = some f) (most i0 : Int) {cA : CA} {lp : LP} (hA : cA = callA cfg (icall Try.prog cfg j))
    (hm : f.iff.length ≤ maxLen)
    (ih : ∀ y : T, y ∈ f.iff → ∀ q : Int, ∃ r, icall Try.prog cfg j 14 [y.av, .d (.int .i64 q)] [] = some (.ret (.d (.int .i64 r)), []))
    (hK1 : ∀ x0 x1 x2 x3 x4 x5 x6 x7 x8 x9 x10 x11 x12 x13 n z, Num (K (.exit 6, ⟨[(89, x0), (88, x1), (87, x2), (86, x3), (85, x4), (84, x5), (83, x6), (82, x7), (81, x8), (80, x9), (79, x10), (78, x11), (77, x12), (76, x13), (1, .d (.int .i64 most)), (2, .ptr (.slot 2) 0), (5, .d (.int .i64 n)), (6, .d (.int .i64 i0)), (7, .ptr (.slot 7) 0), (9, .d (.int .i64 w)), (10, .d (.int .i64 z))], [dfH 2 d, plH 7 p]⟩))) :
    ∀ (m i : Nat) (z n : Int) (lf : Nat) (st : St), f.iff.length - i = m → i ≤ f.iff.length → z = (i : Int) → m < lf → prune [] [1, 2, 5, 6, 7, 9, 10] st = some ⟨[(1, .d (.int .i64 most)), (2, .ptr (.slot 2) 0), (5, .d (.int .i64 n)), (6, .d (.int .i64 i0)), (7, .ptr (.slot 7) 0), (9, .d (.int .i64 w)), (10, .d (.int .i64 z))], [dfH 2 d, plH 7 p]⟩ →
      Num (loopK Try.prog cfg cA lp Try.f28.ntmps 28 [] (bodyAt Try.f28 15) lf st K) := by
  intro m
  induction m with
  | zero =>
    intro i z n lf st hi hle hz hlf hp
    obtain ⟨lf, rfl⟩ : ∃ n, lf = n + 1 := ⟨lf - 1, by omega⟩
    refine num_step hp ?_
    have hend : decide (z < ((cellsL f.iff).length : Int)) = false := by rw [cellsL_len]; simp; omega
    conv => arg 1; whnf
    refine num_next (aop_ix rfl rfl rfl rfl (ixL_at' hw (flow_get hf) rfl)) ?_
    conv => arg 1; whnf
    refine num_if (fun h => by rw [hend] at h; cases h) (fun _ => ?_)
    rw [hend]
    conv => arg 1; whnf
    exact hK1 _ _ _ _ _ _ _ _ _ _ _ _ _ _ _ _
  | succ m ihm =>
    intro i z n lf st hi hle hz hlf hp
    obtain ⟨lf, rfl⟩ : ∃ n, lf = n + 1 := ⟨lf - 1, by omega⟩
    refine num_step hp ?_
    have hend : decide (z < ((cellsL f.iff).length : Int)) = true := by rw [cellsL_len]; simp; omega
    have hx : f.iff[i]? = some f.iff[i] := List.getElem?_eq_getElem (by omega)
    generalize f.iff[i] = y at hx
    conv => arg 1; whnf
    refine num_next (aop_ix rfl rfl rfl rfl (ixL_at' hw (flow_get hf) rfl)) ?_
    conv => arg 1; whnf
    refine num_if (fun _ => ?_) (fun h => by rw [hend] at h; cases h)
    rw [hend]
    conv => arg 1; whnf
    refine num_if (fun h2 => ?_) (fun h2 => ?_) <;> rw [h2]
    · conv => arg 1; whnf
      refine num_next (aop_ix rfl rfl rfl rfl (ixL_at' hw (flow_get hf) rfl)) ?_
      conv => arg 1; whnf
      refine num_next (aop_ix rfl rfl rfl rfl (ixL_at' hz (cellsL_get _ _ _ hx) rfl)) ?_
      conv => arg 1; whnf
      obtain ⟨r, hr⟩ := ih y (List.mem_of_getElem? hx) most
      have hc : ∀ d H, cA d 14 [y.av, .d (.int .i64 most)] H = some (.ret (.d (.int .i64 r)), H) := fun d H => by
        rw [hA]; exact callA_plain hr rfl rfl
      refine num_next (hc _ _) ?_
      conv => arg 1; whnf
      exact ihm (i + 1) _ _ lf _ (by omega) (by omega) (wrap_up hz (by omega)) (by omega) rfl
    · conv => arg 1; whnf
      exact hK1 _ _ _ _ _ _ _ _ _ _ _ _ _ _ _ _
theorem loop28b {K : Fx × St → Option (Res × Hp)} (j : Nat) (d : DefT) (p : PlaceT) (most i0 : Int) {cA : CA} {lp : LP} (hA : cA = callA cfg (icall Try.prog cfg j)) (hl : lp = lpOf Try.prog cfg (icall Try.prog cfg j) Try.f28.ntmps 28 j (([] : Hp).map (·.1)))
    (hm : p.out.length ≤ maxLen) (hm2 : ∀ f ∈ p.out, f.iff.length ≤ maxLen ∧ f.iff.length < j)
    (ih : ∀ f ∈ p.out, ∀ y : T, y ∈ f.iff → ∀ q : Int, ∃ r, icall Try.prog cfg j 14 [y.av, .d (.int .i64 q)] [] = some (.ret (.d (.int .i64 r)), []))
    (hK1 : ∀ x0 x1 x2 x3 x4 x5 x6 x7 x8 x9 n z, Num (K (.exit 4, ⟨[(73, x0), (72, x1), (71, x2), (70, x3), (69, x4), (68, x5), (67, x6), (66, x7), (65, x8), (64, x9), (1, .d (.int .i64 most)), (2, .ptr (.slot 2) 0), (5, .d (.int .i64 n)), (6, .d (.int .i64 i0)), (7, .ptr (.slot 7) 0), (9, .d (.int .i64 z))], [dfH 2 d, plH 7 p]⟩))) :
    ∀ (m i : Nat) (z n : Int) (lf : Nat) (st : St), p.out.length - i = m → i ≤ p.out.length → z = (i : Int) → m < lf → prune [] [1, 2, 5, 6, 7, 9] st = some ⟨[(1, .d (.int .i64 most)), (2, .ptr (.slot 2) 0), (5, .d (.int .i64 n)), (6, .d (.int .i64 i0)), (7, .ptr (.slot 7) 0), (9, .d (.int .i64 z))], [dfH 2 d, plH 7 p]⟩ →
      Num (loopK Try.prog cfg cA lp Try.f28.ntmps 28 [] (bodyAt Try.f28 12) lf st K) := by
  intro m
  induction m with
  | zero =>
    intro i z n lf st hi hle hz hlf hp
    obtain ⟨lf, rfl⟩ : ∃ n, lf = n + 1 := ⟨lf - 1, by omega⟩
    refine num_step hp ?_
    have hend : decide (z < ((p.out.map FlowT.cells).length : Int)) = false := by rw [List.length_map]; simp; omega
    conv => arg 1; whnf
    refine num_if (fun h => by rw [hend] at h; cases h) (fun _ => ?_)
    rw [hend]
    conv => arg 1; whnf
    exact hK1 _ _ _ _ _ _ _ _ _ _ _ _
  | succ m ihm =>
    intro i z n lf st hi hle hz hlf hp
    obtain ⟨lf, rfl⟩ : ∃ n, lf = n + 1 := ⟨lf - 1, by omega⟩
    refine num_step hp ?_
    have hend : decide (z < ((p.out.map FlowT.cells).length : Int)) = true := by rw [List.length_map]; simp; omega
    have hx : p.out[i]? = some p.out[i] := List.getElem?_eq_getElem (by omega)
    generalize p.out[i] = y at hx
    have hy := List.mem_of_getElem? hx
    conv => arg 1; whnf
    refine num_if (fun _ => ?_) (fun h => by rw [hend] at h; cases h)
    rw [hend]
    conv => arg 1; whnf
    refine num_if (fun h2 => ?_) (fun h2 => ?_) <;> rw [h2]
    · conv => arg 1; whnf
      refine num_loop hA hl ?_
      refine loop28c j d p y i z hz hx most i0 hA (hm2 y hy).1 (ih y hy) (fun x0 x1 x2 x3 x4 x5 x6 x7 x8 x9 x10 x11 x12 x13 n2 z2 => ?_) y.iff.length 0 0 _ j _ rfl (Nat.zero_le _) rfl (hm2 y hy).2 rfl
      conv => arg 1; whnf
      exact ihm (i + 1) _ _ lf _ (by omega) (by omega) (wrap_up hz (by omega)) (by omega) rfl
    · conv => arg 1; whnf
      exact hK1 _ _ _ _ _ _ _ _ _ _ _ _
theorem loop28 {K : Fx × St → Option (Res × Hp)} (j : Nat) (d : DefT) (most : Int) {cA : CA} {lp : LP} (hA : cA = callA cfg (icall Try.prog cfg j)) (hl : lp = lpOf Try.prog cfg (icall Try.prog cfg j) Try.f28.ntmps 28 j (([] : Hp).map (·.1)))
    (hd : d.Ok) (hj : d.wt ≤ j)
    (hK1 : ∀ x0 x1 x2 x3 x4 x5 x6 x7 x8 x9 n z, Num (K (.exit 0, ⟨[(24, x0), (23, x1), (22, x2), (21, x3), (20, x4), (19, x5), (18, x6), (17, x7), (16, x8), (15, x9), (1, .d (.int .i64 most)), (2, .ptr (.slot 2) 0), (5, .d (.int .i64 n)), (6, .d (.int .i64 z))], [dfH 2 d]⟩))) :
    ∀ (m i : Nat) (z n : Int) (lf : Nat) (st : St), d.places.length - i = m → i ≤ d.places.length → z = (i : Int) → m < lf → prune [] [1, 2, 5, 6] st = some ⟨[(1, .d (.int .i64 most)), (2, .ptr (.slot 2) 0), (5, .d (.int .i64 n)), (6, .d (.int .i64 z))], [dfH 2 d]⟩ →
      Num (loopK Try.prog cfg cA lp Try.f28.ntmps 28 [] (bodyAt Try.f28 3) lf st K) := by
  intro m
  induction m with
  | zero =>
    intro i z n lf st hi hle hz hlf hp
    obtain ⟨lf, rfl⟩ : ∃ n, lf = n + 1 := ⟨lf - 1, by omega⟩
    refine num_step hp ?_
    have hend : decide (z < ((d.places.map PlaceT.cells).length : Int)) = false := by rw [List.length_map]; simp; omega
    conv => arg 1; whnf
    refine num_if (fun h => by rw [hend] at h; cases h) (fun _ => ?_)
    rw [hend]
    conv => arg 1; whnf
    exact hK1 _ _ _ _ _ _ _ _ _ _ _ _
  | succ m ihm =>
    intro i z n lf st hi hle hz hlf hp
    obtain ⟨lf, rfl⟩ : ∃ n, lf = n + 1 := ⟨lf - 1, by omega⟩
    refine num_step hp ?_
    have hend : decide (z < ((d.places.map PlaceT.cells).length : Int)) = true := by rw [List.length_map]; simp; omega
    have hx : d.places[i]? = some d.places[i] := List.getElem?_eq_getElem (by omega)
    generalize d.places[i] = y at hx
    have hy := List.mem_of_getElem? hx
    obtain ⟨g1, g2, g3, g4, g5, g6, g7⟩ := hd.2.2 y hy
    have hmax := hd.2.1
    have hw := wtS_mem (w := PlaceT.wt) _ _ hy
    unfold DefT.wt at hj
    have he : y.wt = wtL y.arg + wtS FlowT.wt y.out + 4 := rfl
    have hwa := wtL_len y.arg
    have hwo := wtS_len (w := FlowT.wt) y.out
    have hwf : ∀ f ∈ y.out, wtL f.iff + 5 < wtS FlowT.wt y.out := fun f hf => by have := wtS_mem (w := FlowT.wt) _ _ hf; unfold FlowT.wt at this; unfold FlowT.wt; omega
    conv => arg 1; whnf
    refine num_if (fun _ => ?_) (fun h => by rw [hend] at h; cases h)
    rw [hend]
    conv => arg 1; whnf
    refine num_if (fun h2 => ?_) (fun h2 => ?_) <;> rw [h2]
    · conv => arg 1; whnf
      refine num_next (aop_ix rfl rfl rfl rfl (ixL_at' hz (place_get hx) rfl)) ?_
      conv => arg 1; whnf
      refine num_loop hA hl ?_
      refine loop28a j d y most z hA g4 (fun t ht q => weight14 t (OkL_mem g5 ht) j (by have := wtL_mem _ _ ht; omega) q) (fun a0 a1 a2 a3 a4 a5 a6 a7 a8 a9 n1 z1 => ?_) y.arg.length 0 0 _ j _ rfl (Nat.zero_le _) rfl (by omega) rfl
      conv => arg 1; whnf
      refine num_loop hA hl ?_
      refine loop28b j d y most z hA hl g6 (fun f hf => ⟨(g7 f hf).2.1, by have := hwf f hf; have := wtL_len f.iff; omega⟩) (fun f hf t ht q => weight14 t (OkL_mem (g7 f hf).2.2 ht) j (by have := wtL_mem _ _ ht; have := hwf f hf; omega) q) (fun b0 b1 b2 b3 b4 b5 b6 b7 b8 b9 n2 z2 => ?_) y.out.length 0 0 _ j _ rfl (Nat.zero_le _) rfl (by omega) rfl
      conv => arg 1; whnf
      exact ihm (i + 1) _ _ lf _ (by omega) (by omega) (wrap_up hz (by omega)) (by omega) rfl
    · conv => arg 1; whnf
      exact hK1 _ _ _ _ _ _ _ _ _ _ _ _
theorem weight28 (d : DefT) (hd : d.Ok) (k : Nat) (hk : d.wt < k) (p : Int) : ∃ r, icall Try.prog cfg k 28 [d.av, .d (.int .i64 p)] [] = some (.ret (.d (.int .i64 r)), []) := by
  obtain ⟨k, rfl⟩ : ∃ j, k = j + 1 := ⟨k - 1, by omega⟩
  rw [icall_body rfl Try.func28]
  obtain ⟨cA, hcA⟩ : ∃ cA, cA = callA cfg (icall Try.prog cfg k) := ⟨_, rfl⟩
  obtain ⟨lp, hlp⟩ : ∃ lp, lp = lpOf Try.prog cfg (icall Try.prog cfg k) Try.f28.ntmps 28 k (([] : Hp).map (·.1)) := ⟨_, rfl⟩
  rw [← hcA, ← hlp]
  show Num _
  conv => arg 1; whnf
  refine num_loop hcA hlp ?_
  have hw := wtS_len (w := PlaceT.wt) d.places
  have hk' := hk
  unfold DefT.wt at hk'
  refine loop28 k d p hcA hlp hd (by omega) (fun x0 x1 x2 x3 x4 x5 x6 x7 x8 x9 n z => ?_) d.places.length 0 0 _ k _ rfl (Nat.zero_le _) rfl (by omega) rfl
  exact ⟨n, by kernel_rfl⟩
theorem light10 (d : DefT) (hd : d.Ok) (k : Nat) (hk : d.wt + 1 < k) : ∃ b, icall Try.prog cfg k 10 [d.av] [] = some (.ret (.d (.bool b)), []) := by
  obtain ⟨k, rfl⟩ : ∃ j, k = j + 1 := ⟨k - 1, by omega⟩
  obtain ⟨r, hr⟩ := weight28 d hd k (by omega) 800
  have hc : ∀ e H, callA cfg (icall Try.prog cfg k) e 28 [d.av, .d (.int .i64 800)] H = some (.ret (.d (.int .i64 r)), H) := fun e H => callA_plain hr rfl rfl
  rw [icall_body rfl Try.func10]
  obtain ⟨cA, hcA⟩ : ∃ cA, cA = callA cfg (icall Try.prog cfg k) := ⟨_, rfl⟩
  rw [← hcA] at hc ⊢
  refine ⟨decide (r ≤ 800), ?_⟩
  conv => lhs; whnf
  refine nextK_of (hc _ _) ?_
  kernel_rfl
end Go.Rx11
