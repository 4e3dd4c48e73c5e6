import Derived.Test.YtahnmikdpclbfaaRxCfg11
import Derived.Test.YtahnmikdpclbfaaRxDef
open Go Go.Rx Go.Proofs Go.Rx11 Go.RxTree
set_option maxRecDepth 1000000
set_option maxHeartbeats 4000000
set_option linter.unusedVariables false
namespace Go.Rx11
abbrev exH (s : Nat) (x : T) : Nm × AObj := (.slot s, .cells [.d (.int .i64 x.kind), .d (.int .i64 x.n), .d (.str x.name), .d (.list (cellsL x.kids))])
/-- Some number comes back. -/
def Num (r : Option (Res × Hp)) : Prop := ∃ n, r = some (.ret (.d (.int .i64 n)), [])
theorem Num.of {a b : Option (Res × Hp)} (h : Num b) (e : a = b) : Num a := e ▸ h
theorem num_if {c : Bool} {A B : Option (Res × Hp)} (h1 : c = true → Num A) (h2 : c = false → Num B) : Num (iteK c A B) := by
  cases hc : c
  · exact (h2 hc)
  · exact (h1 hc)
theorem num_next {α : Type} {x : Option α} {a : α} {K : α → Option (Res × Hp)} (h : x = some a) (h1 : Num (K a)) : Num (nextK x K) := by subst h; exact h1
theorem num_loop {P : Program} {cfg : Cfg} {ic : Ic} {nt f lf : Nat} {pins : List Nm} {b : Code} {st : St} {K : Fx × St → Option (Res × Hp)} {cA : CA} {lp : LP} (hc : cA = callA cfg ic) (hl : lp = lpOf P cfg ic nt f lf pins)
    (h : Num (loopK P cfg cA lp nt f pins b lf st K)) : Num (nextK (lp b st) K) := by
  obtain ⟨n, h⟩ := h
  exact ⟨n, loop_go hc hl h⟩
theorem num_step {P : Program} {cfg : Cfg} {nt f n : Nat} {pins : List Nm} {b : Code} {st s : St} {K : Fx × St → Option (Res × Hp)} {cA : CA} {lp : LP} (hp : prune pins (cfg.keep f ((Go.Rx.keyOf b).getD 0)) st = some s)
    (h : Num (codeK P cA lp nt b s (fun r => match r.1 with | .norm => loopK P cfg cA lp nt f pins b n r.2 K | _ => K r))) : Num (loopK P cfg cA lp nt f pins b (n + 1) st K) := by
  obtain ⟨m, h⟩ := h
  exact ⟨m, loop_step hp h⟩
theorem loop36 {K : Fx × St → Option (Res × Hp)} (j : Nat) (x : T) (most deep : Int) {cA : CA} {lp : LP} (hA : cA = callA cfg (icall Try.prog cfg j))
    (hm : x.kids.length ≤ maxLen)
    (ih : ∀ y : T, y ∈ x.kids → ∀ p q : Int, ∃ r, icall Try.prog cfg j 36 [y.av, .d (.int .i64 p), .d (.int .i64 q)] [] = some (.ret (.d (.int .i64 r)), []))
    (hK1 : ∀ x1 x2 x3 x4 x5 x6 x7 x8 x9 x10 n z, Num (K (.exit 0, ⟨[(23, x1), (22, x2), (21, x3), (20, x4), (19, x5), (18, x6), (17, x7), (16, x8), (15, x9), (14, x10), (1, .d (.int .i64 most)), (2, .d (.int .i64 deep)), (3, .ptr (.slot 3) 0), (7, .d (.int .i64 n)), (8, .d (.int .i64 z))], [exH 3 x]⟩)))
    (hK2 : ∀ fr H n, fr.get 6 = .d (.int .i64 n) → Num (K (.ret, ⟨fr, H⟩))) :
    ∀ (m i : Nat) (z n : Int) (lf : Nat) (st : St), x.kids.length - i = m → i ≤ x.kids.length → z = (i : Int) → m < lf → prune [] [1, 2, 3, 7, 8] st = some ⟨[(1, .d (.int .i64 most)), (2, .d (.int .i64 deep)), (3, .ptr (.slot 3) 0), (7, .d (.int .i64 n)), (8, .d (.int .i64 z))], [exH 3 x]⟩ →
      Num (loopK Try.prog cfg cA lp Try.f36.ntmps 36 [] (bodyAt Try.f36 3) lf st K) := by
  intro m
  induction m with
  | zero =>
    intro i z n lf st hi hle hz hlf hp
    obtain ⟨lf, rfl⟩ : ∃ n, lf = n + 1 := ⟨lf - 1, by omega⟩
    refine num_step hp ?_
    have hend : decide (z < ((cellsL x.kids).length : Int)) = false := by rw [cellsL_len]; simp; omega
    conv => arg 1; whnf
    refine num_if (fun h => by rw [hend] at h; cases h) (fun _ => ?_)
    rw [hend]
    conv => arg 1; whnf
    exact hK1 _ _ _ _ _ _ _ _ _ _ _ _
  | succ m ihm =>
    intro i z n lf st hi hle hz hlf hp
    obtain ⟨lf, rfl⟩ : ∃ n, lf = n + 1 := ⟨lf - 1, by omega⟩
    refine num_step hp ?_
    have hend : decide (z < ((cellsL x.kids).length : Int)) = true := by rw [cellsL_len]; simp; omega
    have hx : x.kids[i]? = some x.kids[i] := List.getElem?_eq_getElem (by omega)
    generalize x.kids[i] = y at hx
    conv => arg 1; whnf
    refine num_if (fun _ => ?_) (fun h => by rw [hend] at h; cases h)
    rw [hend]
    conv => arg 1; whnf
    refine num_if (fun h2 => ?_) (fun h2 => ?_) <;> rw [h2]
    · conv => arg 1; whnf
      refine num_if (fun h3 => ?_) (fun h3 => ?_) <;> rw [h3]
      · conv => arg 1; whnf
        exact hK2 _ _ _ rfl
      · conv => arg 1; whnf
        refine num_next (aop_ix rfl rfl rfl rfl (ixL_at' hz (cellsL_get _ _ _ hx) rfl)) ?_
        conv => arg 1; whnf
        obtain ⟨r, hr⟩ := ih y (List.mem_of_getElem? hx) (IntKind.i64.wrap (most - n)) (IntKind.i64.wrap (deep - 1))
        have hc : ∀ d H, cA d 36 [y.av, .d (.int .i64 (IntKind.i64.wrap (most - n))), .d (.int .i64 (IntKind.i64.wrap (deep - 1)))] H = some (.ret (.d (.int .i64 r)), H) := fun d H => by
          rw [hA]; exact callA_plain hr rfl rfl
        refine num_next (hc _ _) ?_
        conv => arg 1; whnf
        exact ihm (i + 1) _ _ lf _ (by omega) (by omega) (wrap_up hz (by omega)) (by omega) rfl
    · conv => arg 1; whnf
      exact hK1 _ _ _ _ _ _ _ _ _ _ _ _
theorem weigh36 : ∀ (n : Nat) (x : T), x.wt ≤ n → x.Ok → ∀ k, x.wt < k → ∀ p q : Int, ∃ r, icall Try.prog cfg k 36 [x.av, .d (.int .i64 p), .d (.int .i64 q)] [] = some (.ret (.d (.int .i64 r)), []) := by
  intro n
  induction n with
  | zero => intro a h; rw [T.wt_eq] at h; omega
  | succ n ihn =>
  intro x hn ha k hk p q
  obtain ⟨k, rfl⟩ : ∃ j, k = j + 1 := ⟨k - 1, by omega⟩
  have hwt := T.wt_eq x
  have hmax := ((T.ok_eq x).1 ha).2.2.2
  rw [icall_body rfl Try.func36]
  obtain ⟨cA, hcA⟩ : ∃ cA, cA = callA cfg (icall Try.prog cfg k) := ⟨_, rfl⟩
  obtain ⟨lp, hlp⟩ : ∃ lp, lp = lpOf Try.prog cfg (icall Try.prog cfg k) Try.f36.ntmps 36 k (([] : Hp).map (·.1)) := ⟨_, rfl⟩
  rw [← hcA, ← hlp]
  show Num _
  conv => arg 1; whnf
  refine num_loop hcA hlp ?_
  have hw := wtL_len x.kids
  refine loop36 k x p q hcA hmax.1 (fun y hy p q => ihn y ?_ ?_ k ?_ p q) (fun x1 x2 x3 x4 x5 x6 x7 x8 x9 x10 n z => ?_) (fun fr H n h => ?_) x.kids.length 0 0 _ k _ rfl (Nat.zero_le _) rfl (by omega) rfl
  · have := wtL_mem _ _ hy; omega
  · exact OkL_mem hmax.2 hy
  · have := wtL_mem _ _ hy; omega
  · exact ⟨n, by kernel_rfl⟩
  · refine Num.of ?_ (Eq.trans (b := (finR [] (cfg.ownR 36) H (fr.get 6)).map fun x => (Res.ret x.1, x.2)) (by kernel_rfl) rfl)
    rw [h, fin_d]; exact ⟨n, rfl⟩
theorem weight14 (x : T) (hx : x.Ok) (k : Nat) (hk : x.wt + 1 < k) (p : Int) : ∃ r, icall Try.prog cfg k 14 [x.av, .d (.int .i64 p)] [] = some (.ret (.d (.int .i64 r)), []) := by
  obtain ⟨k, rfl⟩ : ∃ j, k = j + 1 := ⟨k - 1, by omega⟩
  rw [icall_body rfl Try.func14]
  obtain ⟨r, hr⟩ := weigh36 _ x (Nat.le_refl _) hx k (by omega) p 30
  have hc : ∀ d H, callA cfg (icall Try.prog cfg k) d 36 [x.av, .d (.int .i64 p), .d (.int .i64 30)] H = some (.ret (.d (.int .i64 r)), H) := fun d H => callA_plain hr rfl rfl
  obtain ⟨cA, hcA⟩ : ∃ cA, cA = callA cfg (icall Try.prog cfg k) := ⟨_, rfl⟩
  rw [← hcA] at hc ⊢
  show Num _
  conv => arg 1; whnf
  refine num_next (hc _ _) ?_
  exact ⟨r, by kernel_rfl⟩
end Go.Rx11
