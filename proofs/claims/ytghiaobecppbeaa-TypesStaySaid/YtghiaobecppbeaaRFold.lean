/- A part of the proof of the law: what functions of the program come to, walked by Rx, or plain facts on it. -/
import Derived.Test.YtghiaobecppbeaaRRen
import Derived.Test.YtghiaobecppbeaaRSpecFo
open Go Go.Rx Go.Proofs Go.Rx08 Go.RxTree
set_option maxRecDepth 1000000
set_option maxHeartbeats 4000000
set_option linter.unusedVariables false
set_option linter.unusedSimpArgs false
namespace Go.Rx08
abbrev exA (t : T) : AV := .agg [.d (.int .i64 t.kind), .d (.int .i64 t.n), .d (.str t.name), .d (.list (cellsL t.kids))]
theorem yes48 (b : Bool) (k : Nat) (hk : 0 < k) : icall Try.prog cfg k 48 [.d (.bool b)] [] = some (.ret (yesT b).av, []) := by
  obtain ⟨k, rfl⟩ : ∃ j, k = j + 1 := ⟨k - 1, by omega⟩
  cases b
  · rw [icall_body rfl Try.func48]
    obtain ⟨lp, hlp⟩ : ∃ lp, lp = lpOf Try.prog cfg (icall Try.prog cfg k) Try.f48.ntmps 48 k (([] : Hp).map (·.1)) := ⟨_, rfl⟩
    rw [← hlp]
    conv => lhs; whnf
    refine Eq.trans (b := some (Res.ret (AV.agg [AV.d (D.int IntKind.i64 (4 : Int)), AV.d (D.int IntKind.i64 (0 : Int)), AV.d (D.str []), AV.d (D.list [])]), [])) (by kernel_rfl) ?_
    rfl
  · rw [icall_body rfl Try.func48]
    obtain ⟨lp, hlp⟩ : ∃ lp, lp = lpOf Try.prog cfg (icall Try.prog cfg k) Try.f48.ntmps 48 k (([] : Hp).map (·.1)) := ⟨_, rfl⟩
    rw [← hlp]
    conv => lhs; whnf
    refine Eq.trans (b := some (Res.ret (AV.agg [AV.d (D.int IntKind.i64 (3 : Int)), AV.d (D.int IntKind.i64 (0 : Int)), AV.d (D.str []), AV.d (D.list [])]), [])) (by kernel_rfl) ?_
    rfl
theorem yes52 (b : Bool) (k : Nat) (hk : 0 < k) : icall Try.prog cfg k 52 [.d (.bool b)] [] = some (.ret (yesT b).av, []) := by
  obtain ⟨k, rfl⟩ : ∃ j, k = j + 1 := ⟨k - 1, by omega⟩
  cases b
  · rw [icall_body rfl Try.func52]
    obtain ⟨lp, hlp⟩ : ∃ lp, lp = lpOf Try.prog cfg (icall Try.prog cfg k) Try.f52.ntmps 52 k (([] : Hp).map (·.1)) := ⟨_, rfl⟩
    rw [← hlp]
    conv => lhs; whnf
    refine Eq.trans (b := some (Res.ret (AV.agg [AV.d (D.int IntKind.i64 (4 : Int)), AV.d (D.int IntKind.i64 (0 : Int)), AV.d (D.str []), AV.d (D.list [])]), [])) (by kernel_rfl) ?_
    rfl
  · rw [icall_body rfl Try.func52]
    obtain ⟨lp, hlp⟩ : ∃ lp, lp = lpOf Try.prog cfg (icall Try.prog cfg k) Try.f52.ntmps 52 k (([] : Hp).map (·.1)) := ⟨_, rfl⟩
    rw [← hlp]
    conv => lhs; whnf
    refine Eq.trans (b := some (Res.ret (AV.agg [AV.d (D.int IntKind.i64 (3 : Int)), AV.d (D.int IntKind.i64 (0 : Int)), AV.d (D.str []), AV.d (D.list [])]), [])) (by kernel_rfl) ?_
    rfl
theorem num84 (n : Int) (k : Nat) (hk : 0 < k) : icall Try.prog cfg k 84 [.d (.int .i64 n)] [] = some (.ret (numT n).av, []) := by
  obtain ⟨k, rfl⟩ : ∃ j, k = j + 1 := ⟨k - 1, by omega⟩
  rw [icall_body rfl Try.func84]
  obtain ⟨lp, hlp⟩ : ∃ lp, lp = lpOf Try.prog cfg (icall Try.prog cfg k) Try.f84.ntmps 84 k (([] : Hp).map (·.1)) := ⟨_, rfl⟩
  rw [← hlp]
  conv => lhs; whnf
  refine Eq.trans (b := some (Res.ret (AV.agg [AV.d (D.int IntKind.i64 (1 : Int)), AV.d (D.int IntKind.i64 n), AV.d (D.str []), AV.d (D.list [])]), [])) (by kernel_rfl) ?_
  rfl
theorem plain51 (t : T) (k : Nat) (hk : 0 < k) : icall Try.prog cfg k 51 [t.av] [] = some (.ret (.d (.bool (plainK t.kind))), []) := by
  obtain ⟨k, rfl⟩ : ∃ j, k = j + 1 := ⟨k - 1, by omega⟩
  obtain ⟨x, n, s, l⟩ := t
  show icall Try.prog cfg _ _ [.agg [.d (.int .i64 x), .d (.int .i64 n), .d (.str s), .d (.list (cellsL l))]] [] = some (.ret (.d (.bool (plainK x))), [])
  rw [icall_body rfl Try.func51]
  obtain ⟨lp, hlp⟩ : ∃ lp, lp = lpOf Try.prog cfg (icall Try.prog cfg k) Try.f51.ntmps 51 k (([] : Hp).map (·.1)) := ⟨_, rfl⟩
  rw [← hlp]
  conv => lhs; whnf
  refine iteK_beq (fun h1 => ?_) (fun h1 => ?_)
  · obtain rfl : x = (1 : Int) := h1
    conv => lhs; whnf
    refine Eq.trans (b := some (Res.ret (AV.d (D.bool true)), [])) (by kernel_rfl) ?_
    rfl
  · rw [beq_f h1]
    conv => lhs; whnf
    refine iteK_beq (fun h2 => ?_) (fun h2 => ?_)
    · obtain rfl : x = (3 : Int) := h2
      conv => lhs; whnf
      refine Eq.trans (b := some (Res.ret (AV.d (D.bool true)), [])) (by kernel_rfl) ?_
      rfl
    · rw [beq_f h2]
      conv => lhs; whnf
      refine Eq.trans (b := some (Res.ret (AV.d (D.bool (x == (4 : Int)))), [])) (by kernel_rfl) ?_
      exact ret_b (by unfold plainK; by_cases h : x = 4; (rw [beq_t h, dec_t (by omega)]); (rw [beq_f h, dec_f (by omega)]))
theorem known47 (t : T) (k : Nat) (hk : 0 < k) : icall Try.prog cfg k 47 [t.av] [] = some (.ret (.tuple [.d (.int .i64 (if t.kind = 1 then t.n else if t.kind = 3 then 1 else 0)), .d (.bool (plainK t.kind))]), []) := by
  obtain ⟨k, rfl⟩ : ∃ j, k = j + 1 := ⟨k - 1, by omega⟩
  obtain ⟨x, n, s, l⟩ := t
  show icall Try.prog cfg _ _ [.agg [.d (.int .i64 x), .d (.int .i64 n), .d (.str s), .d (.list (cellsL l))]] [] = some (.ret (.tuple [.d (.int .i64 (if x = 1 then n else if x = 3 then 1 else 0)), .d (.bool (plainK x))]), [])
  rw [icall_body rfl Try.func47]
  obtain ⟨lp, hlp⟩ : ∃ lp, lp = lpOf Try.prog cfg (icall Try.prog cfg k) Try.f47.ntmps 47 k (([] : Hp).map (·.1)) := ⟨_, rfl⟩
  rw [← hlp]
  conv => lhs; whnf
  refine iteK_beq (fun h1 => ?_) (fun h1 => ?_)
  · obtain rfl : x = (1 : Int) := h1
    conv => lhs; whnf
    refine Eq.trans (b := some (Res.ret (AV.tuple [AV.d (D.int IntKind.i64 n), AV.d (D.bool true)]), [])) (by kernel_rfl) ?_
    rfl
  · rw [beq_f h1]
    conv => lhs; whnf
    refine iteK_beq (fun h2 => ?_) (fun h2 => ?_)
    · obtain rfl : x = (3 : Int) := h2
      conv => lhs; whnf
      refine Eq.trans (b := some (Res.ret (AV.tuple [AV.d (D.int IntKind.i64 (1 : Int)), AV.d (D.bool true)]), [])) (by kernel_rfl) ?_
      rfl
    · rw [beq_f h2]
      conv => lhs; whnf
      refine iteK_beq (fun h3 => ?_) (fun h3 => ?_)
      · obtain rfl : x = (4 : Int) := h3
        conv => lhs; whnf
        refine Eq.trans (b := some (Res.ret (AV.tuple [AV.d (D.int IntKind.i64 (0 : Int)), AV.d (D.bool true)]), [])) (by kernel_rfl) ?_
        rfl
      · rw [beq_f h3]
        conv => lhs; whnf
        refine Eq.trans (b := some (Res.ret (AV.tuple [AV.d (D.int IntKind.i64 (0 : Int)), AV.d (D.bool false)]), [])) (by kernel_rfl) ?_
        (rw [if_neg (by assumption), if_neg (by assumption), show plainK x = false from dec_f (by omega)])
theorem same71 (t u : T) (k : Nat) (hk : 0 < k) : icall Try.prog cfg k 71 [t.av, u.av] [] = some (.ret (.d (.bool (t.kind == u.kind && t.n == u.n))), []) := by
  obtain ⟨k, rfl⟩ : ∃ j, k = j + 1 := ⟨k - 1, by omega⟩
  show icall Try.prog cfg _ _ [exA t, exA u] [] = _
  rw [icall_body rfl Try.func71]
  obtain ⟨lp, hlp⟩ : ∃ lp, lp = lpOf Try.prog cfg (icall Try.prog cfg k) Try.f71.ntmps 71 k (([] : Hp).map (·.1)) := ⟨_, rfl⟩
  rw [← hlp]
  conv => lhs; whnf
  refine iteK_beq (fun h1 => ?_) (fun h1 => ?_)
  · rw [beq_t h1]
    conv => lhs; whnf
    refine Eq.trans (b := some (Res.ret (AV.d (D.bool (T.n t == T.n u))), [])) (by kernel_rfl) ?_
    rfl
  · rw [beq_f h1]
    conv => lhs; whnf
    refine Eq.trans (b := some (Res.ret (AV.d (D.bool false)), [])) (by kernel_rfl) ?_
    rfl
end Go.Rx08
