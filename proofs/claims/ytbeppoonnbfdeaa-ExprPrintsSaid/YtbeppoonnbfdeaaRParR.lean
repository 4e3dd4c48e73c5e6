/- A part of the proof of the law: what functions of the program come to, walked by Rx, or plain facts on it. -/
import Derived.Test.YtbeppoonnbfdeaaRTreeR
import Derived.Test.YtbeppoonnbfdeaaRParse3
import Derived.Test.YtbeppoonnbfdeaaRLawBack
open Go Go.Rx Go.Proofs Go.Rx07 Go.RxTree
set_option maxRecDepth 1000000
set_option maxHeartbeats 4000000
set_option linter.unusedVariables false
set_option linter.unusedSimpArgs false
namespace Go.Rx07
open Go.Rx07.P (POut T0 parseX_t parseS parseX_s parseS_out)
theorem pr_err (s : List UInt8) (L : List (List D)) (x : T) (k : Nat) (e t : Int) (he : e ≠ 0) (hs : icall Try.prog cfg k 23 [.d (.str s)] [] = some (.ret (.tuple [.d (.list L), .agg [.d (.int .i64 e), .d (.int .i64 t)]]), [])) : icall Try.prog cfg (k + 1) 11 [.d (.str s)] [] = some (.ret (.tuple [.agg [.d (.int .i64 0), .d (.int .i64 0), .d (.str []), .d (.list [])], .agg [.d (.int .i64 e), .d (.int .i64 t)]]), []) := by
  rw [icall_body rfl Try.func11]
  obtain ⟨lp, hlp⟩ : ∃ lp, lp = lpOf Try.prog cfg (icall Try.prog cfg k) Try.f11.ntmps 11 k (([] : Hp).map (·.1)) := ⟨_, rfl⟩
  rw [← hlp]
  conv => lhs; whnf
  refine nextK_of hs ?_
  conv => lhs; whnf
  refine iteK_bne_t he ?_
  conv => lhs; whnf
  refine iteO_t (by kernel_rfl) ?_
  conv => lhs; whnf
  refine iteO_t (by kernel_rfl) ?_
  conv => lhs; whnf
  refine Eq.trans (b := some (Res.ret (AV.tuple [AV.agg [AV.d (D.int IntKind.i64 (0 : Int)), AV.d (D.int IntKind.i64 (0 : Int)), AV.d (D.str []), AV.d (D.list [])], AV.agg [AV.d (D.int IntKind.i64 e), AV.d (D.int IntKind.i64 t)]]), [])) (by kernel_rfl) ?_
  rfl
theorem pr_scan (s : List UInt8) (L : List (List D)) (x : T) (k : Nat) (e t : Int) (he : e ≠ 0) (hs : icall Try.prog cfg k 23 [.d (.str s)] [] = some (.ret (.tuple [.d (.list L), .agg [.d (.int .i64 0), .d (.int .i64 0)]]), [])) (hc : icall Try.prog cfg k 24 [.d (.list L), .d (.int .i64 s.length)] [] = some (.ret (.agg [.d (.int .i64 e), .d (.int .i64 t)]), [])) : icall Try.prog cfg (k + 1) 11 [.d (.str s)] [] = some (.ret (.tuple [.agg [.d (.int .i64 0), .d (.int .i64 0), .d (.str []), .d (.list [])], .agg [.d (.int .i64 e), .d (.int .i64 t)]]), []) := by
  rw [icall_body rfl Try.func11]
  obtain ⟨lp, hlp⟩ : ∃ lp, lp = lpOf Try.prog cfg (icall Try.prog cfg k) Try.f11.ntmps 11 k (([] : Hp).map (·.1)) := ⟨_, rfl⟩
  rw [← hlp]
  conv => lhs; whnf
  refine nextK_of hs ?_
  conv => lhs; whnf
  refine nextK_of hc ?_
  conv => lhs; whnf
  refine iteK_bne_t he ?_
  conv => lhs; whnf
  refine iteO_t (by kernel_rfl) ?_
  conv => lhs; whnf
  refine iteO_t (by kernel_rfl) ?_
  conv => lhs; whnf
  refine Eq.trans (b := some (Res.ret (AV.tuple [AV.agg [AV.d (D.int IntKind.i64 (0 : Int)), AV.d (D.int IntKind.i64 (0 : Int)), AV.d (D.str []), AV.d (D.list [])], AV.agg [AV.d (D.int IntKind.i64 e), AV.d (D.int IntKind.i64 t)]]), [])) (by kernel_rfl) ?_
  rfl
theorem pr_chk (s : List UInt8) (L : List (List D)) (x : T) (k : Nat) (c : Int) (he : c ≠ 0) (hs : icall Try.prog cfg k 23 [.d (.str s)] [] = some (.ret (.tuple [.d (.list L), .agg [.d (.int .i64 0), .d (.int .i64 0)]]), [])) (hc : icall Try.prog cfg k 24 [.d (.list L), .d (.int .i64 s.length)] [] = some (.ret (.agg [.d (.int .i64 0), .d (.int .i64 0)]), [])) (ht : icall Try.prog cfg k 25 [.d (.list L)] [] = some (.ret (.agg [.d (.int .i64 x.kind), .d (.int .i64 x.n), .d (.str x.name), .d (.list (cellsL x.kids))]), [])) (hk : icall Try.prog cfg k 17 [.agg [.d (.int .i64 x.kind), .d (.int .i64 x.n), .d (.str x.name), .d (.list (cellsL x.kids))]] [] = some (.ret (.d (.int .i64 c)), [])) : icall Try.prog cfg (k + 1) 11 [.d (.str s)] [] = some (.ret (.tuple [.agg [.d (.int .i64 0), .d (.int .i64 0), .d (.str []), .d (.list [])], .agg [.d (.int .i64 c), .d (.int .i64 0)]]), []) := by
  rw [icall_body rfl Try.func11]
  obtain ⟨lp, hlp⟩ : ∃ lp, lp = lpOf Try.prog cfg (icall Try.prog cfg k) Try.f11.ntmps 11 k (([] : Hp).map (·.1)) := ⟨_, rfl⟩
  rw [← hlp]
  conv => lhs; whnf
  refine nextK_of hs ?_
  conv => lhs; whnf
  refine nextK_of hc ?_
  conv => lhs; whnf
  refine nextK_of ht ?_
  conv => lhs; whnf
  refine nextK_of hk ?_
  conv => lhs; whnf
  refine iteK_bne_t he ?_
  conv => lhs; whnf
  refine Eq.trans (b := some (Res.ret (AV.tuple [AV.agg [AV.d (D.int IntKind.i64 (0 : Int)), AV.d (D.int IntKind.i64 (0 : Int)), AV.d (D.str []), AV.d (D.list [])], AV.agg [AV.d (D.int IntKind.i64 c), AV.d (D.int IntKind.i64 (0 : Int))]]), [])) (by kernel_rfl) ?_
  rfl
theorem pr_ok (s : List UInt8) (L : List (List D)) (x : T) (k : Nat) (hs : icall Try.prog cfg k 23 [.d (.str s)] [] = some (.ret (.tuple [.d (.list L), .agg [.d (.int .i64 0), .d (.int .i64 0)]]), [])) (hc : icall Try.prog cfg k 24 [.d (.list L), .d (.int .i64 s.length)] [] = some (.ret (.agg [.d (.int .i64 0), .d (.int .i64 0)]), [])) (ht : icall Try.prog cfg k 25 [.d (.list L)] [] = some (.ret (.agg [.d (.int .i64 x.kind), .d (.int .i64 x.n), .d (.str x.name), .d (.list (cellsL x.kids))]), [])) (hk : icall Try.prog cfg k 17 [.agg [.d (.int .i64 x.kind), .d (.int .i64 x.n), .d (.str x.name), .d (.list (cellsL x.kids))]] [] = some (.ret (.d (.int .i64 0)), [])) : icall Try.prog cfg (k + 1) 11 [.d (.str s)] [] = some (.ret (.tuple [.agg [.d (.int .i64 x.kind), .d (.int .i64 x.n), .d (.str x.name), .d (.list (cellsL x.kids))], .agg [.d (.int .i64 0), .d (.int .i64 0)]]), []) := by
  rw [icall_body rfl Try.func11]
  obtain ⟨lp, hlp⟩ : ∃ lp, lp = lpOf Try.prog cfg (icall Try.prog cfg k) Try.f11.ntmps 11 k (([] : Hp).map (·.1)) := ⟨_, rfl⟩
  rw [← hlp]
  conv => lhs; whnf
  refine nextK_of hs ?_
  conv => lhs; whnf
  refine nextK_of hc ?_
  conv => lhs; whnf
  refine nextK_of ht ?_
  conv => lhs; whnf
  refine nextK_of hk ?_
  conv => lhs; whnf
  refine Eq.trans (b := some (Res.ret (AV.tuple [AV.agg [AV.d (D.int IntKind.i64 (T.kind x)), AV.d (D.int IntKind.i64 (T.n x)), AV.d (D.str (T.name x)), AV.d (D.list (cellsL (T.kids x)))], AV.agg [AV.d (D.int IntKind.i64 (0 : Int)), AV.d (D.int IntKind.i64 (0 : Int))]]), [])) (by kernel_rfl) ?_
  rfl
theorem splitS_wf (s : List UInt8) : ∀ w ∈ (splitS s).1, w.Wf := by
  unfold splitS
  split
  · simp
  · exact splitA_wf s s.length 0 [] (by simp)
/-- The document's Parse comes to what the program's does. -/
theorem parse11 (s : List UInt8) (hsl : s.length ≤ 140737488355328) (k : Nat) (hk : 10000 * s.length + 5000 < k) : icall Try.prog cfg k 11 [.d (.str s)] [] = some (.ret (.tuple [(parseS s).1.av, .agg [.d (.int .i64 (parseS s).2.1), .d (.int .i64 (parseS s).2.2)]]), []) := by
  obtain ⟨k, rfl⟩ : ∃ j, k = j + 1 := ⟨k - 1, by omega⟩
  have hsp := split23 s k (by omega)
  have hwf := splitS_wf s
  unfold parseS
  rcases splitS_good s with ⟨hl, q1, q2, q3, hg⟩ | ⟨q1, q2, q3, q4⟩
  · rw [if_neg (fun h => h q1)]
    rw [q1, q2] at hsp
    generalize (splitS s).1 = l at *
    have hsc := scan24 l s.length (by omega) k (by omega)
    have hsim := scan_parse l s.length hwf
    have hf := (Go.Rx07.P.fine l s.length hg (8 * l.length + 8)).2 0 1 1 (by omega) (by omega) (by omega) (by omega)
    cases hr : exprS l s.length (8 * l.length + 8) 0 1 1 with
    | bad er at' =>
      rw [hr] at hsim hf
      obtain ⟨he, _⟩ := hf
      rw [hsim] at hsc
      exact pr_scan s _ T0 k er at' (by rcases he with rfl | rfl <;> simp) hsp hsc
    | tree x j =>
      rw [hr] at hsim hf
      dsimp only at hsim ⊢
      by_cases hj : j < l.length
      · rw [if_pos hj] at hsim ⊢
        rw [hsim] at hsc
        exact pr_scan s _ T0 k 3 _ (by simp) hsp hsc
      · rw [if_neg hj] at hsim ⊢
        rw [hsim.1] at hsc
        have ht := tree25 hsim.2 (by omega) k (by omega)
        obtain ⟨b1, b2, b3, b4, b5⟩ := hf
        have hck := checkR x b4 b3 k (by omega)
        by_cases hc0 : checkT x 1 = 0
        · rw [hc0] at hck
          rw [if_pos hc0]
          exact pr_ok s _ x k hsp hsc ht hck
        · rw [if_neg hc0]
          exact pr_chk s _ x k _ hc0 hsp hsc ht hck
  · rw [if_pos q2]
    exact pr_err s _ T0 k _ _ q2 hsp
end Go.Rx07
