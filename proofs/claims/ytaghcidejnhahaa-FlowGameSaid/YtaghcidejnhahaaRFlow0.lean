/- A part of the proof of the law: what functions of the program come to, walked by Rx, or plain facts on it. -/
import Derived.Test.YtaghcidejnhahaaRTDx
import Derived.Test.YtaghcidejnhahaaRDefs
import Derived.Test.YtaghcidejnhahaaRSpecF
open Go Go.Rx Go.Proofs Go.Rx12 Go.RxTree
set_option maxRecDepth 1000000
set_option maxHeartbeats 4000000
set_option linter.unusedVariables false
set_option linter.unusedSimpArgs false
namespace Go.Rx12
/-- A walker: its cells, and its rows. -/
abbrev wkH (id : List UInt8) (pl : List (List D)) (n : Nat) (me fo de jo up : List (List D)) (v m : Nat) (nx : List (List D)) (e : Int) : Hp :=
  [(.arg 0, .cells [.d (.str id), .d (.list pl), .own (.cell (.arg 0) 2) 0 n, .own (.cell (.arg 0) 3) 0 n, .own (.cell (.arg 0) 4) 0 n, .own (.cell (.arg 0) 5) 0 n, .own (.cell (.arg 0) 6) 0 n, .own (.cell (.arg 0) 7) v m, .d (.int .i64 e)]),
   (.cell (.arg 0) 2, .arr 4 1 0 me), (.cell (.arg 0) 3, .arr 3 1 0 fo), (.cell (.arg 0) 4, .arr 3 1 0 de), (.cell (.arg 0) 5, .arr 3 1 0 jo), (.cell (.arg 0) 6, .arr 3 1 0 up), (.cell (.arg 0) 7, .arr 3 1 v nx)]
theorem fail_0 (id : List UInt8) (pl : List (List D)) (n : Nat) (me fo de jo up : List (List D)) (m : Nat) (nx : List (List D)) (e : Int) (k : Nat) (hk : 0 < k) : icall Try.prog cfg k 30 [.ptr (.arg 0) 0, .d (.int .i64 e)] (wkH id pl n me fo de jo up 0 m nx 0) = some (.ret (.tuple []), wkH id pl n me fo de jo up 0 m nx e) := by
  obtain ⟨k, rfl⟩ : ∃ j, k = j + 1 := ⟨k - 1, by omega⟩
  rw [icall_body rfl Try.func30]
  obtain ⟨lp, hlp⟩ : ∃ lp, lp = lpOf Try.prog cfg (icall Try.prog cfg k) Try.f30.ntmps 30 k ((wkH id pl n me fo de jo up 0 m nx 0).map (·.1)) := ⟨_, rfl⟩
  rw [← hlp]
  conv => lhs; whnf
  refine Eq.trans (b := some (Res.ret (AV.tuple []), [(Nm.arg (0 : Nat), AObj.cells [AV.d (D.str id), AV.d (D.list pl), AV.own (Nm.cell (Nm.arg (0 : Nat)) (2 : Nat)) (0 : Nat) n, AV.own (Nm.cell (Nm.arg (0 : Nat)) (3 : Nat)) (0 : Nat) n, AV.own (Nm.cell (Nm.arg (0 : Nat)) (4 : Nat)) (0 : Nat) n, AV.own (Nm.cell (Nm.arg (0 : Nat)) (5 : Nat)) (0 : Nat) n, AV.own (Nm.cell (Nm.arg (0 : Nat)) (6 : Nat)) (0 : Nat) n, AV.own (Nm.cell (Nm.arg (0 : Nat)) (7 : Nat)) (0 : Nat) m, AV.d (D.int IntKind.i64 e)]), (Nm.cell (Nm.arg (0 : Nat)) (2 : Nat), AObj.arr (4 : Nat) (1 : Nat) (0 : Nat) me), (Nm.cell (Nm.arg (0 : Nat)) (3 : Nat), AObj.arr (3 : Nat) (1 : Nat) (0 : Nat) fo), (Nm.cell (Nm.arg (0 : Nat)) (4 : Nat), AObj.arr (3 : Nat) (1 : Nat) (0 : Nat) de), (Nm.cell (Nm.arg (0 : Nat)) (5 : Nat), AObj.arr (3 : Nat) (1 : Nat) (0 : Nat) jo), (Nm.cell (Nm.arg (0 : Nat)) (6 : Nat), AObj.arr (3 : Nat) (1 : Nat) (0 : Nat) up), (Nm.cell (Nm.arg (0 : Nat)) (7 : Nat), AObj.arr (3 : Nat) (1 : Nat) (0 : Nat) nx)])) (by kernel_rfl) ?_
  rfl
theorem fail_e (id : List UInt8) (pl : List (List D)) (n : Nat) (me fo de jo up : List (List D)) (m : Nat) (nx : List (List D)) (e : Int) (he : e ≠ 0) (e1 : Int) (k : Nat) (hk : 0 < k) : icall Try.prog cfg k 30 [.ptr (.arg 0) 0, .d (.int .i64 e1)] (wkH id pl n me fo de jo up 0 m nx e) = some (.ret (.tuple []), wkH id pl n me fo de jo up 0 m nx e) := by
  obtain ⟨k, rfl⟩ : ∃ j, k = j + 1 := ⟨k - 1, by omega⟩
  rw [icall_body rfl Try.func30]
  obtain ⟨lp, hlp⟩ : ∃ lp, lp = lpOf Try.prog cfg (icall Try.prog cfg k) Try.f30.ntmps 30 k ((wkH id pl n me fo de jo up 0 m nx e).map (·.1)) := ⟨_, rfl⟩
  rw [← hlp]
  conv => lhs; whnf
  refine iteK_beq_f he ?_
  conv => lhs; whnf
  refine Eq.trans (b := some (Res.ret (AV.tuple []), [(Nm.arg (0 : Nat), AObj.cells [AV.d (D.str id), AV.d (D.list pl), AV.own (Nm.cell (Nm.arg (0 : Nat)) (2 : Nat)) (0 : Nat) n, AV.own (Nm.cell (Nm.arg (0 : Nat)) (3 : Nat)) (0 : Nat) n, AV.own (Nm.cell (Nm.arg (0 : Nat)) (4 : Nat)) (0 : Nat) n, AV.own (Nm.cell (Nm.arg (0 : Nat)) (5 : Nat)) (0 : Nat) n, AV.own (Nm.cell (Nm.arg (0 : Nat)) (6 : Nat)) (0 : Nat) n, AV.own (Nm.cell (Nm.arg (0 : Nat)) (7 : Nat)) (0 : Nat) m, AV.d (D.int IntKind.i64 e)]), (Nm.cell (Nm.arg (0 : Nat)) (2 : Nat), AObj.arr (4 : Nat) (1 : Nat) (0 : Nat) me), (Nm.cell (Nm.arg (0 : Nat)) (3 : Nat), AObj.arr (3 : Nat) (1 : Nat) (0 : Nat) fo), (Nm.cell (Nm.arg (0 : Nat)) (4 : Nat), AObj.arr (3 : Nat) (1 : Nat) (0 : Nat) de), (Nm.cell (Nm.arg (0 : Nat)) (5 : Nat), AObj.arr (3 : Nat) (1 : Nat) (0 : Nat) jo), (Nm.cell (Nm.arg (0 : Nat)) (6 : Nat), AObj.arr (3 : Nat) (1 : Nat) (0 : Nat) up), (Nm.cell (Nm.arg (0 : Nat)) (7 : Nat), AObj.arr (3 : Nat) (1 : Nat) (0 : Nat) nx)])) (by kernel_rfl) ?_
  rfl
theorem lenI {n : Nat} (h : n ≤ 1000000) : (n + 1) * (8 + 1) ≤ lim := by unfold lim; omega
theorem enter_same (id : List UInt8) (pl : List (List D)) (n : Nat) (me fo de jo up : List (List D)) (m : Nat) (nx : List (List D)) (e : Int) (t : Nat) (f dp : Int) (ht : t < n) (hme : me[t]? = some [.bool true]) (hfo : fo[t]? = some [.int .i64 f]) (k : Nat) (hk : 1 < k) : icall Try.prog cfg k 28 [.ptr (.arg 0) 0, .d (.int .i64 (t : Int)), .d (.int .i64 f), .d (.int .i64 dp)] (wkH id pl n me fo de jo up 0 m nx e) = some (.ret (.tuple []), wkH id pl n me fo de jo up 0 m nx e) := by
  obtain ⟨k, rfl⟩ : ∃ j, k = j + 1 := ⟨k - 1, by omega⟩
  rw [icall_body rfl Try.func28]
  obtain ⟨lp, hlp⟩ : ∃ lp, lp = lpOf Try.prog cfg (icall Try.prog cfg k) Try.f28.ntmps 28 k ((wkH id pl n me fo de jo up 0 m nx e).map (·.1)) := ⟨_, rfl⟩
  rw [← hlp]
  conv => lhs; whnf
  refine nextK_of (aop_ixO (i := t) rfl rfl rfl rfl rfl rfl (by omega)) ?_
  conv => lhs; whnf
  refine nextK_of (aop_ldE1 rfl rfl hme rfl rfl rfl) ?_
  conv => lhs; whnf
  refine nextK_of (aop_ixO (i := t) rfl rfl rfl rfl rfl rfl (by omega)) ?_
  conv => lhs; whnf
  refine nextK_of (aop_ldE1 rfl rfl hfo rfl rfl rfl) ?_
  conv => lhs; whnf
  refine iteK_bne (fun h1 => ?_) (fun h1 => ?_)
  · rw [bne_t h1]
    (exfalso; omega)
  · rw [bne_f h1]
    conv => lhs; whnf
    refine Eq.trans (b := some (Res.ret (AV.tuple []), [(Nm.arg (0 : Nat), AObj.cells [AV.d (D.str id), AV.d (D.list pl), AV.own (Nm.cell (Nm.arg (0 : Nat)) (2 : Nat)) (0 : Nat) n, AV.own (Nm.cell (Nm.arg (0 : Nat)) (3 : Nat)) (0 : Nat) n, AV.own (Nm.cell (Nm.arg (0 : Nat)) (4 : Nat)) (0 : Nat) n, AV.own (Nm.cell (Nm.arg (0 : Nat)) (5 : Nat)) (0 : Nat) n, AV.own (Nm.cell (Nm.arg (0 : Nat)) (6 : Nat)) (0 : Nat) n, AV.own (Nm.cell (Nm.arg (0 : Nat)) (7 : Nat)) (0 : Nat) m, AV.d (D.int IntKind.i64 e)]), (Nm.cell (Nm.arg (0 : Nat)) (2 : Nat), AObj.arr (4 : Nat) (1 : Nat) (0 : Nat) me), (Nm.cell (Nm.arg (0 : Nat)) (3 : Nat), AObj.arr (3 : Nat) (1 : Nat) (0 : Nat) fo), (Nm.cell (Nm.arg (0 : Nat)) (4 : Nat), AObj.arr (3 : Nat) (1 : Nat) (0 : Nat) de), (Nm.cell (Nm.arg (0 : Nat)) (5 : Nat), AObj.arr (3 : Nat) (1 : Nat) (0 : Nat) jo), (Nm.cell (Nm.arg (0 : Nat)) (6 : Nat), AObj.arr (3 : Nat) (1 : Nat) (0 : Nat) up), (Nm.cell (Nm.arg (0 : Nat)) (7 : Nat), AObj.arr (3 : Nat) (1 : Nat) (0 : Nat) nx)])) (by kernel_rfl) ?_
    rfl
theorem fail_all (id : List UInt8) (pl : List (List D)) (n : Nat) (me fo de jo up : List (List D)) (m : Nat) (nx : List (List D)) (e : Int) (e1 : Int) (k : Nat) (hk : 0 < k) : icall Try.prog cfg k 30 [.ptr (.arg 0) 0, .d (.int .i64 e1)] (wkH id pl n me fo de jo up 0 m nx e) = some (.ret (.tuple []), wkH id pl n me fo de jo up 0 m nx (fl e e1)) := by
  by_cases he : e = 0
  · subst he; exact fail_0 id pl n me fo de jo up m nx e1 k hk
  · rw [fl, if_neg he]; exact fail_e id pl n me fo de jo up m nx e he e1 k hk
theorem enter_diff (id : List UInt8) (pl : List (List D)) (n : Nat) (me fo de jo up : List (List D)) (m : Nat) (nx : List (List D)) (e : Int) (t : Nat) (f g dp : Int) (ht : t < n) (hme : me[t]? = some [.bool true]) (hfo : fo[t]? = some [.int .i64 g]) (hfg : g ≠ f) (k : Nat) (hk : 1 < k) : icall Try.prog cfg k 28 [.ptr (.arg 0) 0, .d (.int .i64 (t : Int)), .d (.int .i64 f), .d (.int .i64 dp)] (wkH id pl n me fo de jo up 0 m nx e) = some (.ret (.tuple []), wkH id pl n me fo de jo up 0 m nx (fl e 8)) := by
  obtain ⟨k, rfl⟩ : ∃ j, k = j + 1 := ⟨k - 1, by omega⟩
  have hc := fail_all id pl n me fo de jo up m nx e 8 k (by omega)
  rw [icall_body rfl Try.func28]
  obtain ⟨lp, hlp⟩ : ∃ lp, lp = lpOf Try.prog cfg (icall Try.prog cfg k) Try.f28.ntmps 28 k ((wkH id pl n me fo de jo up 0 m nx e).map (·.1)) := ⟨_, rfl⟩
  rw [← hlp]
  conv => lhs; whnf
  refine nextK_of (aop_ixO (i := t) rfl rfl rfl rfl rfl rfl (by omega)) ?_
  conv => lhs; whnf
  refine nextK_of (aop_ldE1 rfl rfl hme rfl rfl rfl) ?_
  conv => lhs; whnf
  refine nextK_of (aop_ixO (i := t) rfl rfl rfl rfl rfl rfl (by omega)) ?_
  conv => lhs; whnf
  refine nextK_of (aop_ldE1 rfl rfl hfo rfl rfl rfl) ?_
  conv => lhs; whnf
  refine iteK_bne_t hfg ?_
  conv => lhs; whnf
  refine nextK_of hc ?_
  conv => lhs; whnf
  refine Eq.trans (b := some (Res.ret (AV.tuple []), [(Nm.arg (0 : Nat), AObj.cells [AV.d (D.str id), AV.d (D.list pl), AV.own (Nm.cell (Nm.arg (0 : Nat)) (2 : Nat)) (0 : Nat) n, AV.own (Nm.cell (Nm.arg (0 : Nat)) (3 : Nat)) (0 : Nat) n, AV.own (Nm.cell (Nm.arg (0 : Nat)) (4 : Nat)) (0 : Nat) n, AV.own (Nm.cell (Nm.arg (0 : Nat)) (5 : Nat)) (0 : Nat) n, AV.own (Nm.cell (Nm.arg (0 : Nat)) (6 : Nat)) (0 : Nat) n, AV.own (Nm.cell (Nm.arg (0 : Nat)) (7 : Nat)) (0 : Nat) m, AV.d (D.int IntKind.i64 (fl e (8 : Int)))]), (Nm.cell (Nm.arg (0 : Nat)) (2 : Nat), AObj.arr (4 : Nat) (1 : Nat) (0 : Nat) me), (Nm.cell (Nm.arg (0 : Nat)) (3 : Nat), AObj.arr (3 : Nat) (1 : Nat) (0 : Nat) fo), (Nm.cell (Nm.arg (0 : Nat)) (4 : Nat), AObj.arr (3 : Nat) (1 : Nat) (0 : Nat) de), (Nm.cell (Nm.arg (0 : Nat)) (5 : Nat), AObj.arr (3 : Nat) (1 : Nat) (0 : Nat) jo), (Nm.cell (Nm.arg (0 : Nat)) (6 : Nat), AObj.arr (3 : Nat) (1 : Nat) (0 : Nat) up), (Nm.cell (Nm.arg (0 : Nat)) (7 : Nat), AObj.arr (3 : Nat) (1 : Nat) (0 : Nat) nx)])) (by kernel_rfl) ?_
  rfl
theorem enter_deep (id : List UInt8) (pl : List (List D)) (n : Nat) (me fo de jo up : List (List D)) (m : Nat) (nx : List (List D)) (e : Int) (t : Nat) (f dp : Int) (ht : t < n) (hme : me[t]? = some [.bool false]) (hdp : dp > 16) (k : Nat) (hk : 1 < k) : icall Try.prog cfg k 28 [.ptr (.arg 0) 0, .d (.int .i64 (t : Int)), .d (.int .i64 f), .d (.int .i64 dp)] (wkH id pl n me fo de jo up 0 m nx e) = some (.ret (.tuple []), wkH id pl n me fo de jo up 0 m nx (fl e 6)) := by
  obtain ⟨k, rfl⟩ : ∃ j, k = j + 1 := ⟨k - 1, by omega⟩
  have hc := fail_all id pl n me fo de jo up m nx e 6 k (by omega)
  rw [icall_body rfl Try.func28]
  obtain ⟨lp, hlp⟩ : ∃ lp, lp = lpOf Try.prog cfg (icall Try.prog cfg k) Try.f28.ntmps 28 k ((wkH id pl n me fo de jo up 0 m nx e).map (·.1)) := ⟨_, rfl⟩
  rw [← hlp]
  conv => lhs; whnf
  refine nextK_of (aop_ixO (i := t) rfl rfl rfl rfl rfl rfl (by omega)) ?_
  conv => lhs; whnf
  refine nextK_of (aop_ldE1 rfl rfl hme rfl rfl rfl) ?_
  conv => lhs; whnf
  refine iteK_dec_t hdp ?_
  conv => lhs; whnf
  refine nextK_of hc ?_
  conv => lhs; whnf
  refine Eq.trans (b := some (Res.ret (AV.tuple []), [(Nm.arg (0 : Nat), AObj.cells [AV.d (D.str id), AV.d (D.list pl), AV.own (Nm.cell (Nm.arg (0 : Nat)) (2 : Nat)) (0 : Nat) n, AV.own (Nm.cell (Nm.arg (0 : Nat)) (3 : Nat)) (0 : Nat) n, AV.own (Nm.cell (Nm.arg (0 : Nat)) (4 : Nat)) (0 : Nat) n, AV.own (Nm.cell (Nm.arg (0 : Nat)) (5 : Nat)) (0 : Nat) n, AV.own (Nm.cell (Nm.arg (0 : Nat)) (6 : Nat)) (0 : Nat) n, AV.own (Nm.cell (Nm.arg (0 : Nat)) (7 : Nat)) (0 : Nat) m, AV.d (D.int IntKind.i64 (fl e (6 : Int)))]), (Nm.cell (Nm.arg (0 : Nat)) (2 : Nat), AObj.arr (4 : Nat) (1 : Nat) (0 : Nat) me), (Nm.cell (Nm.arg (0 : Nat)) (3 : Nat), AObj.arr (3 : Nat) (1 : Nat) (0 : Nat) fo), (Nm.cell (Nm.arg (0 : Nat)) (4 : Nat), AObj.arr (3 : Nat) (1 : Nat) (0 : Nat) de), (Nm.cell (Nm.arg (0 : Nat)) (5 : Nat), AObj.arr (3 : Nat) (1 : Nat) (0 : Nat) jo), (Nm.cell (Nm.arg (0 : Nat)) (6 : Nat), AObj.arr (3 : Nat) (1 : Nat) (0 : Nat) up), (Nm.cell (Nm.arg (0 : Nat)) (7 : Nat), AObj.arr (3 : Nat) (1 : Nat) (0 : Nat) nx)])) (by kernel_rfl) ?_
  rfl
theorem enter_new (id : List UInt8) (pl : List (List D)) (n : Nat) (me fo de jo up : List (List D)) (m : Nat) (nx : List (List D)) (e : Int) (t : Nat) (f dp f0 d0 : Int) (ht : t < n) (hm : m ≤ 100000) (hme : me[t]? = some [.bool false]) (hfo : fo[t]? = some [.int .i64 f0]) (hde : de[t]? = some [.int .i64 d0]) (hdp : ¬dp > 16) (k : Nat) (hk : 1 < k) : icall Try.prog cfg k 28 [.ptr (.arg 0) 0, .d (.int .i64 (t : Int)), .d (.int .i64 f), .d (.int .i64 dp)] (wkH id pl n me fo de jo up 0 m nx e) = some (.ret (.tuple []), wkH id pl n (me.set t [.bool true]) (fo.set t [.int .i64 f]) (de.set t [.int .i64 dp]) jo up 1 (m + 1) (nx.take m ++ [[.int .i64 (t : Int)]]) e) := by
  obtain ⟨k, rfl⟩ : ∃ j, k = j + 1 := ⟨k - 1, by omega⟩
  rw [icall_body rfl Try.func28]
  obtain ⟨lp, hlp⟩ : ∃ lp, lp = lpOf Try.prog cfg (icall Try.prog cfg k) Try.f28.ntmps 28 k ((wkH id pl n me fo de jo up 0 m nx e).map (·.1)) := ⟨_, rfl⟩
  rw [← hlp]
  conv => lhs; whnf
  refine nextK_of (aop_ixO (i := t) rfl rfl rfl rfl rfl rfl (by omega)) ?_
  conv => lhs; whnf
  refine nextK_of (aop_ldE1 rfl rfl hme rfl rfl rfl) ?_
  conv => lhs; whnf
  refine iteK_dec_f hdp ?_
  conv => lhs; whnf
  refine nextK_of (aop_ixO (i := t) rfl rfl rfl rfl rfl rfl (by omega)) ?_
  conv => lhs; whnf
  refine nextK_of (aop_stE rfl rfl rfl rfl rfl hme rfl) ?_
  conv => lhs; whnf
  refine iteO_t (by kernel_rfl) ?_
  conv => lhs; whnf
  refine nextK_of (aop_ixO (i := t) rfl rfl rfl rfl rfl rfl (by omega)) ?_
  conv => lhs; whnf
  refine nextK_of (aop_stE rfl rfl rfl rfl rfl hfo rfl) ?_
  conv => lhs; whnf
  refine nextK_of (aop_ixO (i := t) rfl rfl rfl rfl rfl rfl (by omega)) ?_
  conv => lhs; whnf
  refine nextK_of (aop_stE rfl rfl rfl rfl rfl hde rfl) ?_
  conv => lhs; whnf
  refine iteO_t (by kernel_rfl) ?_
  conv => lhs; whnf
  refine nextK_of (aop_app rfl rfl rfl rfl rfl rfl rfl rfl rfl rfl rfl rfl (lenI (by omega))) ?_
  conv => lhs; whnf
  refine Eq.trans (b := some (Res.ret (AV.tuple []), [(Nm.arg (0 : Nat), AObj.cells [AV.d (D.str id), AV.d (D.list pl), AV.own (Nm.cell (Nm.arg (0 : Nat)) (2 : Nat)) (0 : Nat) n, AV.own (Nm.cell (Nm.arg (0 : Nat)) (3 : Nat)) (0 : Nat) n, AV.own (Nm.cell (Nm.arg (0 : Nat)) (4 : Nat)) (0 : Nat) n, AV.own (Nm.cell (Nm.arg (0 : Nat)) (5 : Nat)) (0 : Nat) n, AV.own (Nm.cell (Nm.arg (0 : Nat)) (6 : Nat)) (0 : Nat) n, AV.own (Nm.cell (Nm.arg (0 : Nat)) (7 : Nat)) (1 : Nat) (m + List.length [[D.int IntKind.i64 ↑t]]), AV.d (D.int IntKind.i64 e)]), (Nm.cell (Nm.arg (0 : Nat)) (2 : Nat), AObj.arr (4 : Nat) (1 : Nat) (0 : Nat) (List.set me t [D.bool true])), (Nm.cell (Nm.arg (0 : Nat)) (3 : Nat), AObj.arr (3 : Nat) (1 : Nat) (0 : Nat) (List.set fo t [D.int IntKind.i64 f])), (Nm.cell (Nm.arg (0 : Nat)) (4 : Nat), AObj.arr (3 : Nat) (1 : Nat) (0 : Nat) (List.set de t [D.int IntKind.i64 dp])), (Nm.cell (Nm.arg (0 : Nat)) (5 : Nat), AObj.arr (3 : Nat) (1 : Nat) (0 : Nat) jo), (Nm.cell (Nm.arg (0 : Nat)) (6 : Nat), AObj.arr (3 : Nat) (1 : Nat) (0 : Nat) up), (Nm.cell (Nm.arg (0 : Nat)) (7 : Nat), AObj.arr (3 : Nat) (1 : Nat) (1 : Nat) (List.append (List.take m nx) [[D.int IntKind.i64 ↑t]]))])) (by kernel_rfl) ?_
  rfl
/-- The same, of a walker. -/
abbrev wkW (id : List UInt8) (pl : List (List D)) (n v : Nat) (w : Wk) : Hp := wkH id pl n (bC w.met) (iC w.fork) (iC w.deep) (iC w.join) (iC w.up) v w.next.length (iC w.next) w.err
theorem enter_all (id : List UInt8) (pl : List (List D)) (n : Nat) (w : Wk) (hl : w.Len n) (t : Nat) (ht : t < n) (hm : w.next.length ≤ 100000) (f dp : Int) (k : Nat) (hk : 1 < k) :
    ∃ v, (v = 0 ∨ v = 1) ∧ icall Try.prog cfg k 28 [.ptr (.arg 0) 0, .d (.int .i64 (t : Int)), .d (.int .i64 f), .d (.int .i64 dp)] (wkW id pl n 0 w) = some (.ret (.tuple []), wkW id pl n v (enterS w t f dp)) := by
  obtain ⟨me, fo, de, jo, up, nx, e⟩ := w
  obtain ⟨h1, h2, h3, h4, h5⟩ := hl
  dsimp only at h1 h2 h3 h4 h5 hm
  have a1 := bC_get (getB_some (l := me) (i := t) (by omega))
  have a2 := iC_get (getI_some (l := fo) (i := t) (by omega))
  have a3 := iC_get (getI_some (l := de) (i := t) (by omega))
  by_cases g1 : getB me t = true
  · rw [g1] at a1
    by_cases g2 : getI fo t = f
    · rw [g2] at a2
      refine ⟨0, .inl rfl, ?_⟩
      rw [show enterS ⟨me, fo, de, jo, up, nx, e⟩ t f dp = ⟨me, fo, de, jo, up, nx, e⟩ by rw [enterS, if_pos g1, if_pos g2]]
      exact enter_same id pl n _ _ _ _ _ _ _ e t f dp ht a1 a2 k hk
    · refine ⟨0, .inl rfl, ?_⟩
      rw [show enterS ⟨me, fo, de, jo, up, nx, e⟩ t f dp = Wk.fail ⟨me, fo, de, jo, up, nx, e⟩ 8 by rw [enterS, if_pos g1, if_neg g2]]
      exact enter_diff id pl n _ _ _ _ _ _ _ e t f _ dp ht a1 a2 g2 k hk
  · rw [show getB me t = false by simpa using g1] at a1
    by_cases g2 : dp > 16
    · refine ⟨0, .inl rfl, ?_⟩
      rw [show enterS ⟨me, fo, de, jo, up, nx, e⟩ t f dp = Wk.fail ⟨me, fo, de, jo, up, nx, e⟩ 6 by rw [enterS, if_neg g1, if_pos g2]]
      exact enter_deep id pl n _ _ _ _ _ _ _ e t f dp ht a1 g2 k hk
    · refine ⟨1, .inr rfl, ?_⟩
      rw [show enterS ⟨me, fo, de, jo, up, nx, e⟩ t f dp = ⟨me.set t true, fo.set t f, de.set t dp, jo, up, nx ++ [(t : Int)], e⟩ by rw [enterS, if_neg g1, if_neg g2]]
      have h := enter_new id pl n _ _ _ (iC jo) (iC up) _ (iC nx) e t f dp _ _ ht hm a1 a2 a3 g2 k hk
      rw [bC_set, iC_set, iC_set, iC_app] at h
      rw [h]
      simp only [wkW, List.length_append, List.length_singleton]
end Go.Rx12
