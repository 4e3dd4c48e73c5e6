/- A part of the proof of the law: what functions of the program come to, walked by Rx, or plain facts on it. -/
import Derived.Test.YtbeppoonnbfdeaaRText2
import Derived.Test.YtbeppoonnbfdeaaRChkR
import Derived.Test.YtbeppoonnbfdeaaRLawSame
import Derived.Test.YtbeppoonnbfdeaaRParse2
open Go Go.Rx Go.Proofs Go.Rx07 Go.RxTree
set_option maxRecDepth 1000000
set_option maxHeartbeats 4000000
set_option linter.unusedVariables false
set_option linter.unusedSimpArgs false
namespace Go.Rx07
open Go.Rx07.P (POut T0 parseX_t)
theorem parse10 (s : List UInt8) (k : Nat) (hk : 0 < k) : icall Try.prog cfg k 10 [.d (.str s)] [] = parseX [.d (.str s)] [] := by
  obtain ⟨k, rfl⟩ : ∃ j, k = j + 1 := ⟨k - 1, by omega⟩
  rfl
theorem check16 (t : T) (hs : t.Sm) (ho : t.Ok) (k : Nat) (hk : t.wt + 1 < k) : icall Try.prog cfg k 16 [.agg [.d (.int .i64 t.kind), .d (.int .i64 t.n), .d (.str t.name), .d (.list (cellsL t.kids))]] [] = some (.ret (.d (.int .i64 (checkT t 1))), []) := check38 t hs ho k hk
def printS (x : T) (er : Int) (q : Bool) : List UInt8 × Int := if checkT x 1 ≠ 0 then ([], checkT x 1) else if er = 0 ∧ q = true then (textS x 1, 0) else ([], 6)
theorem print14 (x : T) (hs : x.Sm) (ho : x.Ok) (y : T) (er at' : Int) (hp : parseX [.d (.str (textS x 1))] [] = some (.ret (.tuple [y.av, .agg [.d (.int .i64 er), .d (.int .i64 at')]]), [])) (k : Nat) (hk : x.wt + 100 < k) :
    icall Try.prog cfg k 14 [.agg [.d (.int .i64 x.kind), .d (.int .i64 x.n), .d (.str x.name), .d (.list (cellsL x.kids))]] [] = some (.ret (.tuple [.d (.str (printS x er (sameT x y)).1), .d (.int .i64 (printS x er (sameT x y)).2)]), []) := by
  obtain ⟨k, rfl⟩ : ∃ j, k = j + 1 := ⟨k - 1, by omega⟩
  have hc := check16 x hs ho k (by omega)
  rw [← parse10 _ k (by omega)] at hp
  replace hp : icall Try.prog cfg k 10 [.d (.str (textS x 1))] [] = some (.ret (.tuple [.agg [.d (.int .i64 y.kind), .d (.int .i64 y.n), .d (.str y.name), .d (.list (cellsL y.kids))], .agg [.d (.int .i64 er), .d (.int .i64 at')]]), []) := hp
  have hsm := same18 _ x y (Nat.le_refl _) ho k (by omega)
  replace hsm : icall Try.prog cfg k 18 [.agg [.d (.int .i64 x.kind), .d (.int .i64 x.n), .d (.str x.name), .d (.list (cellsL x.kids))], .agg [.d (.int .i64 y.kind), .d (.int .i64 y.n), .d (.str y.name), .d (.list (cellsL y.kids))]] [] = some (.ret (.d (.bool (sameT x y))), []) := hsm
  unfold printS
  by_cases hc0 : checkT x 1 = 0
  · have ht := text27 16 x 1 (by omega) ho hc0 k (by omega)
    rw [hc0] at hc
    rw [if_neg (fun h => h hc0)]
    generalize textS x 1 = s at *
    generalize sameT x y = q at *
    cases q
    · rw [if_neg (by simp)]
      rw [icall_body rfl Try.func14]
      obtain ⟨lp, hlp⟩ : ∃ lp, lp = lpOf Try.prog cfg (icall Try.prog cfg k) Try.f14.ntmps 14 k (([] : Hp).map (·.1)) := ⟨_, rfl⟩
      rw [← hlp]
      conv => lhs; whnf
      refine nextK_of hc ?_
      conv => lhs; whnf
      refine nextK_of ht ?_
      conv => lhs; whnf
      refine nextK_of hp ?_
      conv => lhs; whnf
      refine iteK_bne (fun h1 => ?_) (fun h1 => ?_)
      · rw [bne_t h1]
        conv => lhs; whnf
        refine Eq.trans (b := some (Res.ret (AV.tuple [AV.d (D.str []), AV.d (D.int IntKind.i64 (6 : Int))]), [])) (by kernel_rfl) ?_
        rfl
      · obtain rfl : er = (0 : Int) := h1
        conv => lhs; whnf
        refine nextK_of hsm ?_
        conv => lhs; whnf
        refine Eq.trans (b := some (Res.ret (AV.tuple [AV.d (D.str []), AV.d (D.int IntKind.i64 (6 : Int))]), [])) (by kernel_rfl) ?_
        rfl
    · by_cases her : er = 0
      · rw [if_pos ⟨her, rfl⟩]
        rw [her] at hp
        rw [icall_body rfl Try.func14]
        obtain ⟨lp, hlp⟩ : ∃ lp, lp = lpOf Try.prog cfg (icall Try.prog cfg k) Try.f14.ntmps 14 k (([] : Hp).map (·.1)) := ⟨_, rfl⟩
        rw [← hlp]
        conv => lhs; whnf
        refine nextK_of hc ?_
        conv => lhs; whnf
        refine nextK_of ht ?_
        conv => lhs; whnf
        refine nextK_of hp ?_
        conv => lhs; whnf
        refine nextK_of hsm ?_
        conv => lhs; whnf
        refine Eq.trans (b := some (Res.ret (AV.tuple [AV.d (D.str s), AV.d (D.int IntKind.i64 (0 : Int))]), [])) (by kernel_rfl) ?_
        rfl
      · rw [if_neg (fun h => her h.1)]
        rw [icall_body rfl Try.func14]
        obtain ⟨lp, hlp⟩ : ∃ lp, lp = lpOf Try.prog cfg (icall Try.prog cfg k) Try.f14.ntmps 14 k (([] : Hp).map (·.1)) := ⟨_, rfl⟩
        rw [← hlp]
        conv => lhs; whnf
        refine nextK_of hc ?_
        conv => lhs; whnf
        refine nextK_of ht ?_
        conv => lhs; whnf
        refine nextK_of hp ?_
        conv => lhs; whnf
        refine iteK_bne_t her ?_
        conv => lhs; whnf
        refine iteK_bne_t her ?_
        conv => lhs; whnf
        refine iteK_bne_t her ?_
        conv => lhs; whnf
        refine iteK_bne_t her ?_
        conv => lhs; whnf
        refine iteK_bne_t her ?_
        conv => lhs; whnf
        refine Eq.trans (b := some (Res.ret (AV.tuple [AV.d (D.str []), AV.d (D.int IntKind.i64 (6 : Int))]), [])) (by kernel_rfl) ?_
        rfl
  · rw [if_pos hc0]
    generalize checkT x 1 = c at *
    rw [icall_body rfl Try.func14]
    obtain ⟨lp, hlp⟩ : ∃ lp, lp = lpOf Try.prog cfg (icall Try.prog cfg k) Try.f14.ntmps 14 k (([] : Hp).map (·.1)) := ⟨_, rfl⟩
    rw [← hlp]
    conv => lhs; whnf
    refine nextK_of hc ?_
    conv => lhs; whnf
    refine iteK_bne_t hc0 ?_
    conv => lhs; whnf
    refine Eq.trans (b := some (Res.ret (AV.tuple [AV.d (D.str []), AV.d (D.int IntKind.i64 c)]), [])) (by kernel_rfl) ?_
    rfl
end Go.Rx07
