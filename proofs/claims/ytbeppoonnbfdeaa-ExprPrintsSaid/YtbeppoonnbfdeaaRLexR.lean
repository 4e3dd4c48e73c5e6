/- A part of the proof of the law: what functions of the program come to, walked by Rx, or plain facts on it. -/
import Derived.Test.YtbeppoonnbfdeaaRxCfg07
import Derived.Test.YtbeppoonnbfdeaaRSpecL
open Go Go.Rx Go.Proofs Go.Rx07 Go.RxTree
set_option maxRecDepth 1000000
set_option maxHeartbeats 4000000
set_option linter.unusedVariables false
set_option linter.unusedSimpArgs false
namespace Go.Rx07
theorem kind1 (c : UInt8) : (kindB c == 1) = decide (48 ≤ c.toNat ∧ c.toNat ≤ 57) := by
  unfold kindB
  generalize c.toNat = m
  generalize signB c = q
  by_cases h1 : m = 32
  · subst h1; rfl
  rw [if_neg h1]
  by_cases h2 : 48 ≤ m ∧ m ≤ 57
  · rw [if_pos h2, decide_eq_true h2]; rfl
  rw [if_neg h2, decide_eq_false h2]
  split
  · rfl
  · split <;> rfl
theorem kind2 (c : UInt8) : (kindB c == 2) = decide (97 ≤ c.toNat ∧ c.toNat ≤ 122) := by
  unfold kindB
  generalize c.toNat = m
  generalize signB c = q
  by_cases h1 : m = 32
  · subst h1; rfl
  rw [if_neg h1]
  by_cases h2 : 48 ≤ m ∧ m ≤ 57
  · rw [if_pos h2, decide_eq_false (by omega)]; rfl
  rw [if_neg h2]
  by_cases h3 : 97 ≤ m ∧ m ≤ 122
  · rw [if_pos h3, decide_eq_true h3]; rfl
  rw [if_neg h3, decide_eq_false h3]
  split <;> rfl
theorem digitR (c : UInt8) (k : Nat) (hk : 0 < k) : icall Try.prog cfg k 50 [.d (.int .u8 c.toNat)] [] = some (.ret (.d (.bool (kindB c == 1))), []) := by
  obtain ⟨k, rfl⟩ : ∃ j, k = j + 1 := ⟨k - 1, by omega⟩
  rw [kind1]
  generalize c.toNat = m
  rw [icall_body rfl Try.func50]
  obtain ⟨lp, hlp⟩ : ∃ lp, lp = lpOf Try.prog cfg (icall Try.prog cfg k) Try.f50.ntmps 50 k (([] : Hp).map (·.1)) := ⟨_, rfl⟩
  rw [← hlp]
  conv => lhs; whnf
  refine iteK_dec (fun h1 => ?_) (fun h1 => ?_)
  · rw [dec_t h1]
    conv => lhs; whnf
    refine Eq.trans (b := some (Res.ret (AV.d (D.bool (decide (↑m ≤ (57 : Int))))), [])) (by kernel_rfl) ?_
    (exact ret_b (by rw [decide_eq_decide]; omega))
  · rw [dec_f h1]
    conv => lhs; whnf
    refine Eq.trans (b := some (Res.ret (AV.d (D.bool false)), [])) (by kernel_rfl) ?_
    (exact ret_b (by symm; simp; omega))
theorem letterR (c : UInt8) (k : Nat) (hk : 0 < k) : icall Try.prog cfg k 52 [.d (.int .u8 c.toNat)] [] = some (.ret (.d (.bool (kindB c == 2))), []) := by
  obtain ⟨k, rfl⟩ : ∃ j, k = j + 1 := ⟨k - 1, by omega⟩
  rw [kind2]
  generalize c.toNat = m
  rw [icall_body rfl Try.func52]
  obtain ⟨lp, hlp⟩ : ∃ lp, lp = lpOf Try.prog cfg (icall Try.prog cfg k) Try.f52.ntmps 52 k (([] : Hp).map (·.1)) := ⟨_, rfl⟩
  rw [← hlp]
  conv => lhs; whnf
  refine iteK_dec (fun h1 => ?_) (fun h1 => ?_)
  · rw [dec_t h1]
    conv => lhs; whnf
    refine Eq.trans (b := some (Res.ret (AV.d (D.bool (decide (↑m ≤ (122 : Int))))), [])) (by kernel_rfl) ?_
    (exact ret_b (by rw [decide_eq_decide]; omega))
  · rw [dec_f h1]
    conv => lhs; whnf
    refine Eq.trans (b := some (Res.ret (AV.d (D.bool false)), [])) (by kernel_rfl) ?_
    (exact ret_b (by symm; simp; omega))
theorem kind3 (c : UInt8) : (kindB c == 3) = signB c := by
  unfold kindB signB
  generalize c.toNat = m
  by_cases h1 : m = 32
  · subst h1; rfl
  rw [if_neg h1]
  by_cases h2 : 48 ≤ m ∧ m ≤ 57
  · rw [if_pos h2]; symm; simp; omega
  rw [if_neg h2]
  by_cases h3 : 97 ≤ m ∧ m ≤ 122
  · rw [if_pos h3]; symm; simp; omega
  rw [if_neg h3]
  split
  · rename_i h; rw [h]; rfl
  · rename_i h; rw [Bool.not_eq_true] at h; rw [h]; rfl
theorem sg0 (m : Nat) (hn : (43 : Int) ≠ (m : Int)) {ic : Ic} {lp : LP} (lf : Nat) (st : St) (hp : prune [] [0, 3, 4] st = some ⟨[(0, .d (.int .u8 m)), (3, .own (.slot 5) 0 11), (4, .d (.int .i64 0))], [(.slot 5, .arr 5 1 0 [[.int .u8 43], [.int .u8 45], [.int .u8 42], [.int .u8 47], [.int .u8 61], [.int .u8 60], [.int .u8 40], [.int .u8 41], [.int .u8 38], [.int .u8 124], [.int .u8 33]])]⟩) (r : Option (Fx × St))
    (hih : ∀ st', prune [] [0, 3, 4] st' = some ⟨[(0, .d (.int .u8 m)), (3, .own (.slot 5) 0 11), (4, .d (.int .i64 1))], [(.slot 5, .arr 5 1 0 [[.int .u8 43], [.int .u8 45], [.int .u8 42], [.int .u8 47], [.int .u8 61], [.int .u8 60], [.int .u8 40], [.int .u8 41], [.int .u8 38], [.int .u8 124], [.int .u8 33]])]⟩ → loopK Try.prog cfg ic lp Try.f49.ntmps 49 [] (bodyAt Try.f49 3) lf st' (exitP [] (some [2])) = r) : loopK Try.prog cfg ic lp Try.f49.ntmps 49 [] (bodyAt Try.f49 3) (lf + 1) st (exitP [] (some [2])) = r := by
  refine loop_step hp ?_
  conv => lhs; whnf
  refine iteK_beq_f hn ?_
  conv => lhs; whnf
  refine Eq.trans (hih _ rfl) ?_
  rfl
theorem sg1 (m : Nat) (hn : (45 : Int) ≠ (m : Int)) {ic : Ic} {lp : LP} (lf : Nat) (st : St) (hp : prune [] [0, 3, 4] st = some ⟨[(0, .d (.int .u8 m)), (3, .own (.slot 5) 0 11), (4, .d (.int .i64 1))], [(.slot 5, .arr 5 1 0 [[.int .u8 43], [.int .u8 45], [.int .u8 42], [.int .u8 47], [.int .u8 61], [.int .u8 60], [.int .u8 40], [.int .u8 41], [.int .u8 38], [.int .u8 124], [.int .u8 33]])]⟩) (r : Option (Fx × St))
    (hih : ∀ st', prune [] [0, 3, 4] st' = some ⟨[(0, .d (.int .u8 m)), (3, .own (.slot 5) 0 11), (4, .d (.int .i64 2))], [(.slot 5, .arr 5 1 0 [[.int .u8 43], [.int .u8 45], [.int .u8 42], [.int .u8 47], [.int .u8 61], [.int .u8 60], [.int .u8 40], [.int .u8 41], [.int .u8 38], [.int .u8 124], [.int .u8 33]])]⟩ → loopK Try.prog cfg ic lp Try.f49.ntmps 49 [] (bodyAt Try.f49 3) lf st' (exitP [] (some [2])) = r) : loopK Try.prog cfg ic lp Try.f49.ntmps 49 [] (bodyAt Try.f49 3) (lf + 1) st (exitP [] (some [2])) = r := by
  refine loop_step hp ?_
  conv => lhs; whnf
  refine iteK_beq_f hn ?_
  conv => lhs; whnf
  refine Eq.trans (hih _ rfl) ?_
  rfl
theorem sg2 (m : Nat) (hn : (42 : Int) ≠ (m : Int)) {ic : Ic} {lp : LP} (lf : Nat) (st : St) (hp : prune [] [0, 3, 4] st = some ⟨[(0, .d (.int .u8 m)), (3, .own (.slot 5) 0 11), (4, .d (.int .i64 2))], [(.slot 5, .arr 5 1 0 [[.int .u8 43], [.int .u8 45], [.int .u8 42], [.int .u8 47], [.int .u8 61], [.int .u8 60], [.int .u8 40], [.int .u8 41], [.int .u8 38], [.int .u8 124], [.int .u8 33]])]⟩) (r : Option (Fx × St))
    (hih : ∀ st', prune [] [0, 3, 4] st' = some ⟨[(0, .d (.int .u8 m)), (3, .own (.slot 5) 0 11), (4, .d (.int .i64 3))], [(.slot 5, .arr 5 1 0 [[.int .u8 43], [.int .u8 45], [.int .u8 42], [.int .u8 47], [.int .u8 61], [.int .u8 60], [.int .u8 40], [.int .u8 41], [.int .u8 38], [.int .u8 124], [.int .u8 33]])]⟩ → loopK Try.prog cfg ic lp Try.f49.ntmps 49 [] (bodyAt Try.f49 3) lf st' (exitP [] (some [2])) = r) : loopK Try.prog cfg ic lp Try.f49.ntmps 49 [] (bodyAt Try.f49 3) (lf + 1) st (exitP [] (some [2])) = r := by
  refine loop_step hp ?_
  conv => lhs; whnf
  refine iteK_beq_f hn ?_
  conv => lhs; whnf
  refine Eq.trans (hih _ rfl) ?_
  rfl
theorem sg3 (m : Nat) (hn : (47 : Int) ≠ (m : Int)) {ic : Ic} {lp : LP} (lf : Nat) (st : St) (hp : prune [] [0, 3, 4] st = some ⟨[(0, .d (.int .u8 m)), (3, .own (.slot 5) 0 11), (4, .d (.int .i64 3))], [(.slot 5, .arr 5 1 0 [[.int .u8 43], [.int .u8 45], [.int .u8 42], [.int .u8 47], [.int .u8 61], [.int .u8 60], [.int .u8 40], [.int .u8 41], [.int .u8 38], [.int .u8 124], [.int .u8 33]])]⟩) (r : Option (Fx × St))
    (hih : ∀ st', prune [] [0, 3, 4] st' = some ⟨[(0, .d (.int .u8 m)), (3, .own (.slot 5) 0 11), (4, .d (.int .i64 4))], [(.slot 5, .arr 5 1 0 [[.int .u8 43], [.int .u8 45], [.int .u8 42], [.int .u8 47], [.int .u8 61], [.int .u8 60], [.int .u8 40], [.int .u8 41], [.int .u8 38], [.int .u8 124], [.int .u8 33]])]⟩ → loopK Try.prog cfg ic lp Try.f49.ntmps 49 [] (bodyAt Try.f49 3) lf st' (exitP [] (some [2])) = r) : loopK Try.prog cfg ic lp Try.f49.ntmps 49 [] (bodyAt Try.f49 3) (lf + 1) st (exitP [] (some [2])) = r := by
  refine loop_step hp ?_
  conv => lhs; whnf
  refine iteK_beq_f hn ?_
  conv => lhs; whnf
  refine Eq.trans (hih _ rfl) ?_
  rfl
theorem sg4 (m : Nat) (hn : (61 : Int) ≠ (m : Int)) {ic : Ic} {lp : LP} (lf : Nat) (st : St) (hp : prune [] [0, 3, 4] st = some ⟨[(0, .d (.int .u8 m)), (3, .own (.slot 5) 0 11), (4, .d (.int .i64 4))], [(.slot 5, .arr 5 1 0 [[.int .u8 43], [.int .u8 45], [.int .u8 42], [.int .u8 47], [.int .u8 61], [.int .u8 60], [.int .u8 40], [.int .u8 41], [.int .u8 38], [.int .u8 124], [.int .u8 33]])]⟩) (r : Option (Fx × St))
    (hih : ∀ st', prune [] [0, 3, 4] st' = some ⟨[(0, .d (.int .u8 m)), (3, .own (.slot 5) 0 11), (4, .d (.int .i64 5))], [(.slot 5, .arr 5 1 0 [[.int .u8 43], [.int .u8 45], [.int .u8 42], [.int .u8 47], [.int .u8 61], [.int .u8 60], [.int .u8 40], [.int .u8 41], [.int .u8 38], [.int .u8 124], [.int .u8 33]])]⟩ → loopK Try.prog cfg ic lp Try.f49.ntmps 49 [] (bodyAt Try.f49 3) lf st' (exitP [] (some [2])) = r) : loopK Try.prog cfg ic lp Try.f49.ntmps 49 [] (bodyAt Try.f49 3) (lf + 1) st (exitP [] (some [2])) = r := by
  refine loop_step hp ?_
  conv => lhs; whnf
  refine iteK_beq_f hn ?_
  conv => lhs; whnf
  refine Eq.trans (hih _ rfl) ?_
  rfl
theorem sg5 (m : Nat) (hn : (60 : Int) ≠ (m : Int)) {ic : Ic} {lp : LP} (lf : Nat) (st : St) (hp : prune [] [0, 3, 4] st = some ⟨[(0, .d (.int .u8 m)), (3, .own (.slot 5) 0 11), (4, .d (.int .i64 5))], [(.slot 5, .arr 5 1 0 [[.int .u8 43], [.int .u8 45], [.int .u8 42], [.int .u8 47], [.int .u8 61], [.int .u8 60], [.int .u8 40], [.int .u8 41], [.int .u8 38], [.int .u8 124], [.int .u8 33]])]⟩) (r : Option (Fx × St))
    (hih : ∀ st', prune [] [0, 3, 4] st' = some ⟨[(0, .d (.int .u8 m)), (3, .own (.slot 5) 0 11), (4, .d (.int .i64 6))], [(.slot 5, .arr 5 1 0 [[.int .u8 43], [.int .u8 45], [.int .u8 42], [.int .u8 47], [.int .u8 61], [.int .u8 60], [.int .u8 40], [.int .u8 41], [.int .u8 38], [.int .u8 124], [.int .u8 33]])]⟩ → loopK Try.prog cfg ic lp Try.f49.ntmps 49 [] (bodyAt Try.f49 3) lf st' (exitP [] (some [2])) = r) : loopK Try.prog cfg ic lp Try.f49.ntmps 49 [] (bodyAt Try.f49 3) (lf + 1) st (exitP [] (some [2])) = r := by
  refine loop_step hp ?_
  conv => lhs; whnf
  refine iteK_beq_f hn ?_
  conv => lhs; whnf
  refine Eq.trans (hih _ rfl) ?_
  rfl
theorem sg6 (m : Nat) (hn : (40 : Int) ≠ (m : Int)) {ic : Ic} {lp : LP} (lf : Nat) (st : St) (hp : prune [] [0, 3, 4] st = some ⟨[(0, .d (.int .u8 m)), (3, .own (.slot 5) 0 11), (4, .d (.int .i64 6))], [(.slot 5, .arr 5 1 0 [[.int .u8 43], [.int .u8 45], [.int .u8 42], [.int .u8 47], [.int .u8 61], [.int .u8 60], [.int .u8 40], [.int .u8 41], [.int .u8 38], [.int .u8 124], [.int .u8 33]])]⟩) (r : Option (Fx × St))
    (hih : ∀ st', prune [] [0, 3, 4] st' = some ⟨[(0, .d (.int .u8 m)), (3, .own (.slot 5) 0 11), (4, .d (.int .i64 7))], [(.slot 5, .arr 5 1 0 [[.int .u8 43], [.int .u8 45], [.int .u8 42], [.int .u8 47], [.int .u8 61], [.int .u8 60], [.int .u8 40], [.int .u8 41], [.int .u8 38], [.int .u8 124], [.int .u8 33]])]⟩ → loopK Try.prog cfg ic lp Try.f49.ntmps 49 [] (bodyAt Try.f49 3) lf st' (exitP [] (some [2])) = r) : loopK Try.prog cfg ic lp Try.f49.ntmps 49 [] (bodyAt Try.f49 3) (lf + 1) st (exitP [] (some [2])) = r := by
  refine loop_step hp ?_
  conv => lhs; whnf
  refine iteK_beq_f hn ?_
  conv => lhs; whnf
  refine Eq.trans (hih _ rfl) ?_
  rfl
theorem sg7 (m : Nat) (hn : (41 : Int) ≠ (m : Int)) {ic : Ic} {lp : LP} (lf : Nat) (st : St) (hp : prune [] [0, 3, 4] st = some ⟨[(0, .d (.int .u8 m)), (3, .own (.slot 5) 0 11), (4, .d (.int .i64 7))], [(.slot 5, .arr 5 1 0 [[.int .u8 43], [.int .u8 45], [.int .u8 42], [.int .u8 47], [.int .u8 61], [.int .u8 60], [.int .u8 40], [.int .u8 41], [.int .u8 38], [.int .u8 124], [.int .u8 33]])]⟩) (r : Option (Fx × St))
    (hih : ∀ st', prune [] [0, 3, 4] st' = some ⟨[(0, .d (.int .u8 m)), (3, .own (.slot 5) 0 11), (4, .d (.int .i64 8))], [(.slot 5, .arr 5 1 0 [[.int .u8 43], [.int .u8 45], [.int .u8 42], [.int .u8 47], [.int .u8 61], [.int .u8 60], [.int .u8 40], [.int .u8 41], [.int .u8 38], [.int .u8 124], [.int .u8 33]])]⟩ → loopK Try.prog cfg ic lp Try.f49.ntmps 49 [] (bodyAt Try.f49 3) lf st' (exitP [] (some [2])) = r) : loopK Try.prog cfg ic lp Try.f49.ntmps 49 [] (bodyAt Try.f49 3) (lf + 1) st (exitP [] (some [2])) = r := by
  refine loop_step hp ?_
  conv => lhs; whnf
  refine iteK_beq_f hn ?_
  conv => lhs; whnf
  refine Eq.trans (hih _ rfl) ?_
  rfl
theorem sg8 (m : Nat) (hn : (38 : Int) ≠ (m : Int)) {ic : Ic} {lp : LP} (lf : Nat) (st : St) (hp : prune [] [0, 3, 4] st = some ⟨[(0, .d (.int .u8 m)), (3, .own (.slot 5) 0 11), (4, .d (.int .i64 8))], [(.slot 5, .arr 5 1 0 [[.int .u8 43], [.int .u8 45], [.int .u8 42], [.int .u8 47], [.int .u8 61], [.int .u8 60], [.int .u8 40], [.int .u8 41], [.int .u8 38], [.int .u8 124], [.int .u8 33]])]⟩) (r : Option (Fx × St))
    (hih : ∀ st', prune [] [0, 3, 4] st' = some ⟨[(0, .d (.int .u8 m)), (3, .own (.slot 5) 0 11), (4, .d (.int .i64 9))], [(.slot 5, .arr 5 1 0 [[.int .u8 43], [.int .u8 45], [.int .u8 42], [.int .u8 47], [.int .u8 61], [.int .u8 60], [.int .u8 40], [.int .u8 41], [.int .u8 38], [.int .u8 124], [.int .u8 33]])]⟩ → loopK Try.prog cfg ic lp Try.f49.ntmps 49 [] (bodyAt Try.f49 3) lf st' (exitP [] (some [2])) = r) : loopK Try.prog cfg ic lp Try.f49.ntmps 49 [] (bodyAt Try.f49 3) (lf + 1) st (exitP [] (some [2])) = r := by
  refine loop_step hp ?_
  conv => lhs; whnf
  refine iteK_beq_f hn ?_
  conv => lhs; whnf
  refine Eq.trans (hih _ rfl) ?_
  rfl
theorem sg9 (m : Nat) (hn : (124 : Int) ≠ (m : Int)) {ic : Ic} {lp : LP} (lf : Nat) (st : St) (hp : prune [] [0, 3, 4] st = some ⟨[(0, .d (.int .u8 m)), (3, .own (.slot 5) 0 11), (4, .d (.int .i64 9))], [(.slot 5, .arr 5 1 0 [[.int .u8 43], [.int .u8 45], [.int .u8 42], [.int .u8 47], [.int .u8 61], [.int .u8 60], [.int .u8 40], [.int .u8 41], [.int .u8 38], [.int .u8 124], [.int .u8 33]])]⟩) (r : Option (Fx × St))
    (hih : ∀ st', prune [] [0, 3, 4] st' = some ⟨[(0, .d (.int .u8 m)), (3, .own (.slot 5) 0 11), (4, .d (.int .i64 10))], [(.slot 5, .arr 5 1 0 [[.int .u8 43], [.int .u8 45], [.int .u8 42], [.int .u8 47], [.int .u8 61], [.int .u8 60], [.int .u8 40], [.int .u8 41], [.int .u8 38], [.int .u8 124], [.int .u8 33]])]⟩ → loopK Try.prog cfg ic lp Try.f49.ntmps 49 [] (bodyAt Try.f49 3) lf st' (exitP [] (some [2])) = r) : loopK Try.prog cfg ic lp Try.f49.ntmps 49 [] (bodyAt Try.f49 3) (lf + 1) st (exitP [] (some [2])) = r := by
  refine loop_step hp ?_
  conv => lhs; whnf
  refine iteK_beq_f hn ?_
  conv => lhs; whnf
  refine Eq.trans (hih _ rfl) ?_
  rfl
theorem sg10 (m : Nat) (hn : (33 : Int) ≠ (m : Int)) {ic : Ic} {lp : LP} (lf : Nat) (st : St) (hp : prune [] [0, 3, 4] st = some ⟨[(0, .d (.int .u8 m)), (3, .own (.slot 5) 0 11), (4, .d (.int .i64 10))], [(.slot 5, .arr 5 1 0 [[.int .u8 43], [.int .u8 45], [.int .u8 42], [.int .u8 47], [.int .u8 61], [.int .u8 60], [.int .u8 40], [.int .u8 41], [.int .u8 38], [.int .u8 124], [.int .u8 33]])]⟩) (r : Option (Fx × St))
    (hih : ∀ st', prune [] [0, 3, 4] st' = some ⟨[(0, .d (.int .u8 m)), (3, .own (.slot 5) 0 11), (4, .d (.int .i64 11))], [(.slot 5, .arr 5 1 0 [[.int .u8 43], [.int .u8 45], [.int .u8 42], [.int .u8 47], [.int .u8 61], [.int .u8 60], [.int .u8 40], [.int .u8 41], [.int .u8 38], [.int .u8 124], [.int .u8 33]])]⟩ → loopK Try.prog cfg ic lp Try.f49.ntmps 49 [] (bodyAt Try.f49 3) lf st' (exitP [] (some [2])) = r) : loopK Try.prog cfg ic lp Try.f49.ntmps 49 [] (bodyAt Try.f49 3) (lf + 1) st (exitP [] (some [2])) = r := by
  refine loop_step hp ?_
  conv => lhs; whnf
  refine iteK_beq_f hn ?_
  conv => lhs; whnf
  refine Eq.trans (hih _ rfl) ?_
  rfl
theorem sg11 (m : Nat) {ic : Ic} {lp : LP} (lf : Nat) (st : St) (hp : prune [] [0, 3, 4] st = some ⟨[(0, .d (.int .u8 m)), (3, .own (.slot 5) 0 11), (4, .d (.int .i64 11))], [(.slot 5, .arr 5 1 0 [[.int .u8 43], [.int .u8 45], [.int .u8 42], [.int .u8 47], [.int .u8 61], [.int .u8 60], [.int .u8 40], [.int .u8 41], [.int .u8 38], [.int .u8 124], [.int .u8 33]])]⟩) : loopK Try.prog cfg ic lp Try.f49.ntmps 49 [] (bodyAt Try.f49 3) (lf + 1) st (exitP [] (some [2])) = some (.exit 0, ⟨[(2, .undef)], []⟩) := by
  refine loop_step hp ?_
  conv => lhs; whnf
  refine Eq.trans (b := some (Fx.exit (0 : Nat), St.mk [((2 : Nat), AV.undef)] [])) (by kernel_rfl) ?_
  rfl
noncomputable def BS : Code := sq2 (sq2 (Try.f49.body.getD .skip))
theorem sg_open (m : Nat) {ic : Ic} {lp : LP} : bodyK Try.prog cfg ic lp 49 Try.f49 [.d (.int .u8 m)] [] =
    codeK Try.prog cfg ic lp 18 BS ⟨[(3, .own (.slot 5) 0 11), (5, .own (.slot 5) 0 11), (2, .d (.bool false)), (0, .d (.int .u8 m))], [(.slot 5, .arr 5 1 0 [[.int .u8 43], [.int .u8 45], [.int .u8 42], [.int .u8 47], [.int .u8 61], [.int .u8 60], [.int .u8 40], [.int .u8 41], [.int .u8 38], [.int .u8 124], [.int .u8 33]])]⟩ (finish Try.prog (cfg.ownR 49) Try.f49 []) := by kernel_rfl
theorem signR (c : UInt8) (k : Nat) (hk : 20 < k) : icall Try.prog cfg k 49 [.d (.int .u8 c.toNat)] [] = some (.ret (.d (.bool (kindB c == 3))), []) := by
  obtain ⟨k, rfl⟩ : ∃ j, k = j + 20 := ⟨k - 20, by omega⟩
  rw [kind3]
  unfold signB
  generalize c.toNat = m
  by_cases h : m = 43 ∨ m = 45 ∨ m = 42 ∨ m = 47 ∨ m = 61 ∨ m = 60 ∨ m = 40 ∨ m = 41 ∨ m = 38 ∨ m = 124 ∨ m = 33
  · rcases h with rfl | rfl | rfl | rfl | rfl | rfl | rfl | rfl | rfl | rfl | rfl <;> kernel_rfl
  · rw [show (m == 43 || m == 45 || m == 42 || m == 47 || m == 61 || m == 60 || m == 40 || m == 41 || m == 38 || m == 124 || m == 33) = false by simp; omega]
    have n1 : (43 : Int) ≠ (m : Int) := by omega
    have n2 : (45 : Int) ≠ (m : Int) := by omega
    have n3 : (42 : Int) ≠ (m : Int) := by omega
    have n4 : (47 : Int) ≠ (m : Int) := by omega
    have n5 : (61 : Int) ≠ (m : Int) := by omega
    have n6 : (60 : Int) ≠ (m : Int) := by omega
    have n7 : (40 : Int) ≠ (m : Int) := by omega
    have n8 : (41 : Int) ≠ (m : Int) := by omega
    have n9 : (38 : Int) ≠ (m : Int) := by omega
    have n10 : (124 : Int) ≠ (m : Int) := by omega
    have n11 : (33 : Int) ≠ (m : Int) := by omega
    clear h
    have key : ∀ (lp : LP) (st : St), prune [] [0, 3, 4] st = some ⟨[(0, .d (.int .u8 m)), (3, .own (.slot 5) 0 11), (4, .d (.int .i64 0))], [(.slot 5, .arr 5 1 0 [[.int .u8 43], [.int .u8 45], [.int .u8 42], [.int .u8 47], [.int .u8 61], [.int .u8 60], [.int .u8 40], [.int .u8 41], [.int .u8 38], [.int .u8 124], [.int .u8 33]])]⟩ → loopK Try.prog cfg (icall Try.prog cfg (k + 19)) lp Try.f49.ntmps 49 [] (bodyAt Try.f49 3) (k + 19) st (exitP [] (some [2])) = some (.exit 0, ⟨[(2, .undef)], []⟩) := fun lp s0 h0 =>
      sg0 m n1 _ s0 h0 _ fun s1 h1 => sg1 m n2 _ s1 h1 _ fun s2 h2 => sg2 m n3 _ s2 h2 _ fun s3 h3 => sg3 m n4 _ s3 h3 _ fun s4 h4 => sg4 m n5 _ s4 h4 _ fun s5 h5 => sg5 m n6 _ s5 h5 _ fun s6 h6 => sg6 m n7 _ s6 h6 _ fun s7 h7 => sg7 m n8 _ s7 h7 _ fun s8 h8 => sg8 m n9 _ s8 h8 _ fun s9 h9 => sg9 m n10 _ s9 h9 _ fun s10 h10 => sg10 m n11 _ s10 h10 _ fun s11 h11 => sg11 m _ s11 h11
    show icall Try.prog cfg (k + 19 + 1) _ _ _ = _
    obtain ⟨q, hq⟩ : ∃ q, q = k + 19 := ⟨_, rfl⟩
    rw [← hq] at key ⊢
    rw [icall_body rfl Try.func49]
    obtain ⟨lp, hlp⟩ : ∃ lp, lp = lpOf Try.prog cfg (icall Try.prog cfg q) Try.f49.ntmps 49 q (([] : Hp).map (·.1)) := ⟨_, rfl⟩
    rw [← hlp]
    rw [sg_open]
    conv => lhs; whnf
    refine nextK_of (loop_at hlp (key lp _ rfl)) ?_
    conv => lhs; whnf
    refine Eq.trans (b := some (Res.ret (AV.d (D.bool false)), [])) (by kernel_rfl) ?_
    rfl
end Go.Rx07
