/- A part of the proof of the law: what functions of the program come to, walked by Rx, or plain facts on it. -/
import Derived.Test.YtghiaobecppbeaaRNamesT
import Derived.Test.YtghiaobecppbeaaRSpecM
open Go Go.Rx Go.Proofs Go.Rx08 Go.RxTree
set_option maxRecDepth 1000000
set_option maxHeartbeats 4000000
set_option linter.unusedVariables false
set_option linter.unusedSimpArgs false
namespace Go.Rx08
/-- What a tree asks for, rising, each once. -/
def nmP (t : T) : List (List UInt8) := if checkT t 1 = 0 then uniq (namesT t) else []
theorem names_most {t : T} (h : checkT t 1 = 0) : (namesT t).length ≤ 65536 := names_few 16 t (by simpa using h) (Nat.le_refl _)
theorem uniq_nil : uniq [] = [] := by unfold uniq sorted; rw [List.mergeSort_nil]; rfl
theorem srt32 (l : List (List UInt8)) (h : l.length ≤ 65536) (k : Nat) (hk : 0 < k) : icall Try.prog cfg k 32 [.own (.arg 0) 0 l.length] [(.arg 0, .arr 9 1 0 (sL l))] = some (.ret (.tuple []), [(.arg 0, .arr 9 1 0 (sL (sorted l)))]) := by
  rw [icall_ext (g := fixX sortX) rfl k hk]; exact fix_sort _ l (by omega)
theorem cmp33 (l : List (List UInt8)) (h : l.length ≤ 65536) (n : Nat) (hn : n = l.length) (k : Nat) (hk : 0 < k) : icall Try.prog cfg k 33 [.own (.arg 0) 0 n] [(.arg 0, .arr 9 1 0 (sL l))] = some (.ret (.own (.arg 0) 1 (Go.Lib.compact l).length), [(.arg 0, .arr 9 1 1 (sL (Go.Lib.compact l)))]) := by
  subst hn
  rw [icall_ext (g := fixX compactX) rfl k hk]; exact fix_compact _ l (by omega)
theorem srt0 (k : Nat) (hk : 0 < k) : icall Try.prog cfg k 32 [.nilsl] [] = some (.ret (.tuple []), []) := by
  rw [icall_ext (g := fixX sortX) rfl k hk]; rfl
theorem cmp0 (k : Nat) (hk : 0 < k) : icall Try.prog cfg k 33 [.nilsl] [] = some (.ret .nilsl, []) := by
  rw [icall_ext (g := fixX compactX) rfl k hk]; rfl
theorem sorted_len (l : List (List UInt8)) : (sorted l).length = l.length := List.length_mergeSort _
theorem take_all (l : List (List UInt8)) : List.take l.length (sL l) = sL l := List.take_of_length_le (by rw [sL_len]; exact Nat.le_refl _)
theorem names17 (t : T) (hs : t.Sm) (ho : t.Ok) (k : Nat) (hk : t.wt + 20 < k) : icall Try.prog cfg k 17 [t.av] [] = some (.ret (.d (.list (sL (nmP t)))), []) := by
  obtain ⟨k, rfl⟩ : ∃ j, k = j + 1 := ⟨k - 1, by omega⟩
  show icall Try.prog cfg _ _ [.agg [.d (.int .i64 t.kind), .d (.int .i64 t.n), .d (.str t.name), .d (.list (cellsL t.kids))]] [] = _
  have c1 := check38 t hs ho k (by omega)
  unfold nmP
  by_cases hc : checkT t 1 = 0
  · rw [hc] at c1
    rw [if_pos hc]
    have c2 := names31 t.wt t (Nat.le_refl _) 1 hc ho k (by omega)
    have hm := names_most hc
    by_cases hn : namesT t = []
    · have c3 := c2.2.1 hn
      have c4 := srt0 k (by omega)
      have c5 := cmp0 k (by omega)
      rw [hn, uniq_nil]
      rw [icall_body rfl Try.func17]
      obtain ⟨lp, hlp⟩ : ∃ lp, lp = lpOf Try.prog cfg (icall Try.prog cfg k) Try.f17.ntmps 17 k (([] : Hp).map (·.1)) := ⟨_, rfl⟩
      rw [← hlp]
      conv => lhs; whnf
      refine nextK_of c1 ?_
      conv => lhs; whnf
      refine nextK_of c3 ?_
      conv => lhs; whnf
      refine nextK_of c4 ?_
      conv => lhs; whnf
      refine nextK_of c5 ?_
      conv => lhs; whnf
      refine Eq.trans (b := some (Res.ret (AV.d (D.list [])), [])) (by kernel_rfl) ?_
      rfl
    · have c3 := c2.2.2 hn (by omega)
      have c4 := srt32 (namesT t) hm k (by omega)
      have c5 := cmp33 (sorted (namesT t)) (by rw [sorted_len]; exact hm) (namesT t).length (sorted_len _).symm k (by omega)
      have ht := take_all (uniq (namesT t))
      rw [icall_body rfl Try.func17]
      obtain ⟨lp, hlp⟩ : ∃ lp, lp = lpOf Try.prog cfg (icall Try.prog cfg k) Try.f17.ntmps 17 k (([] : Hp).map (·.1)) := ⟨_, rfl⟩
      rw [← hlp]
      conv => lhs; whnf
      refine nextK_of c1 ?_
      conv => lhs; whnf
      refine nextK_of c3 ?_
      conv => lhs; whnf
      refine nextK_of c4 ?_
      conv => lhs; whnf
      refine nextK_of c5 ?_
      conv => lhs; whnf
      refine Eq.trans (b := some (Res.ret (AV.d (D.list (List.take (List.length (Lib.compact (sorted (namesT t)))) (sL (Lib.compact (sorted (namesT t))))))), [])) (by kernel_rfl) ?_
      (exact congrArg (fun x => some (Res.ret (AV.d (D.list x)), ([] : Hp))) ht)
  · rw [if_neg hc]
    generalize checkT t 1 = e at c1 hc
    rw [icall_body rfl Try.func17]
    obtain ⟨lp, hlp⟩ : ∃ lp, lp = lpOf Try.prog cfg (icall Try.prog cfg k) Try.f17.ntmps 17 k (([] : Hp).map (·.1)) := ⟨_, rfl⟩
    rw [← hlp]
    conv => lhs; whnf
    refine nextK_of c1 ?_
    conv => lhs; whnf
    refine iteK_bne_t hc ?_
    conv => lhs; whnf
    refine Eq.trans (b := some (Res.ret (AV.d (D.list [])), [])) (by kernel_rfl) ?_
    rfl
end Go.Rx08
