/- A part of the proof of the law: what functions of the program come to, walked by Rx, or plain facts on it. -/
import Derived.Test.YtaghcidejnhahaaRNm3
import Derived.Test.YtaghcidejnhahaaRRow6
open Go Go.Rx Go.Proofs Go.Rx12 Go.RxTree
set_option maxRecDepth 1000000
set_option maxHeartbeats 4000000
set_option linter.unusedVariables false
set_option linter.unusedSimpArgs false
namespace Go.Rx12
abbrev chH (fo de jo : List Int) (R : Hp) : Hp := [(.slot 2, .cells [.d (.list (iC fo)), .d (.list (iC de)), .d (.list (iC jo))])] ++ R
abbrev chF (a : Int) (oA : AV) : List (Nat × AV) := [(1, .d (.int .i64 a)), (2, .ptr (.slot 2) 0), (5, oA)]
def chY : List Int → Option (Fx × St)
  | [] => some (.exit 0, ⟨[(5, .nilsl)], []⟩)
  | x :: r => some (.exit 0, ⟨[(5, .own (.slot 36) 0 (x :: r).length)], [(.slot 36, .arr 3 1 0 (iC (x :: r)))]⟩)
theorem chain_go {fo : List Int} {m : Nat} {a : Int} {out : List Int} (h1 : 0 ≤ a) (h2 : a < (fo.length : Int)) (h3 : getI fo a.toNat ≠ 0) (h4 : out.length < 16) : chainS fo (m + 1) a out = chainS fo m (getI fo a.toNat) (out ++ [getI fo a.toNat]) := by rw [chainS, if_pos ⟨h1, h2, h3, h4⟩]
theorem chain_end {fo : List Int} {m : Nat} {a : Int} {out : List Int} (h : ¬ (0 ≤ a ∧ a < (fo.length : Int) ∧ getI fo a.toNat ≠ 0 ∧ out.length < 16)) : chainS fo m a out = out := by
  cases m with
  | zero => rfl
  | succ m => rw [chainS, if_neg h]
theorem chOwn (fo de jo : List Int) (j : Nat) {lp : LP} (hlp : lp = lpOf Try.prog cfg (icall Try.prog cfg j) Try.f19.ntmps 19 j (([] : Hp).map (·.1))) :
    ∀ (m : Nat) (a : Int) (out : List Int) (no : Nat) (oD : List (List D)) (lf : Nat) (st : St), out ≠ [] → out.length + m = 16 → no = out.length → oD = iC out → m < lf → prune [] [1, 2, 5] st = some ⟨chF a (.own (.slot 36) 0 no), chH fo de jo [(.slot 36, .arr 3 1 0 oD)]⟩ →
      loopK Try.prog cfg (icall Try.prog cfg j) lp Try.f19.ntmps 19 [] (bodyAt Try.f19 2) lf st (exitP [] (some [5])) = chY (chainS fo m a out) := by
  intro m
  induction m with
  | zero =>
    intro a out no oD lf st h0 h1 h2 h3 hlf hp
    obtain ⟨lf, rfl⟩ : ∃ n, lf = n + 1 := ⟨lf - 1, by omega⟩
    by_cases c1 : ¬ 0 ≤ a
    · have g1 : ¬ a ≥ 0 := by omega
      rw [chain_end (by omega)]
      obtain ⟨x, r, rfl⟩ := List.exists_cons_of_ne_nil h0
      subst h2; subst h3
      refine loop_step hp ?_
      conv => lhs; whnf
      refine iteK_dec_f c1 ?_
      conv => lhs; whnf
      refine iteK_dec_f c1 ?_
      conv => lhs; whnf
      refine iteK_dec_f c1 ?_
      conv => lhs; whnf
      refine iteK_dec_f c1 ?_
      conv => lhs; whnf
      refine iteK_dec_f c1 ?_
      conv => lhs; whnf
      refine iteK_dec_f c1 ?_
      conv => lhs; whnf
      refine Eq.trans (b := some (Fx.exit (0 : Nat), St.mk [((5 : Nat), AV.own (Nm.slot (36 : Nat)) (0 : Nat) (List.length (x :: r)))] [(Nm.slot (36 : Nat), AObj.arr (3 : Nat) (1 : Nat) (0 : Nat) ([D.int IntKind.i64 x] :: List.map (fun z => [D.int IntKind.i64 z]) r))])) (by kernel_rfl) ?_
      rfl
    have c1 : 0 ≤ a := by omega
    have g1 : a ≥ 0 := c1
    by_cases c2 : ¬ a < (fo.length : Int)
    · have g2 : ¬ a < ((iC fo).length : Int) := by rw [iC_len]; exact c2
      rw [chain_end (by omega)]
      obtain ⟨x, r, rfl⟩ := List.exists_cons_of_ne_nil h0
      subst h2; subst h3
      refine loop_step hp ?_
      conv => lhs; whnf
      refine iteK_dec_t c1 ?_
      conv => lhs; whnf
      refine iteK_dec_t c1 ?_
      conv => lhs; whnf
      refine iteK_dec_t c1 ?_
      conv => lhs; whnf
      refine iteK_dec_t c1 ?_
      conv => lhs; whnf
      refine iteK_dec_t c1 ?_
      conv => lhs; whnf
      refine iteK_dec_t c1 ?_
      conv => lhs; whnf
      refine iteK_dec_f g2 ?_
      conv => lhs; whnf
      refine iteK_dec_f g2 ?_
      conv => lhs; whnf
      refine iteK_dec_f g2 ?_
      conv => lhs; whnf
      refine iteK_dec_f g2 ?_
      conv => lhs; whnf
      refine iteK_dec_f g2 ?_
      conv => lhs; whnf
      refine iteK_dec_f g2 ?_
      conv => lhs; whnf
      refine iteK_dec_f g2 ?_
      conv => lhs; whnf
      refine Eq.trans (b := some (Fx.exit (0 : Nat), St.mk [((5 : Nat), AV.own (Nm.slot (36 : Nat)) (0 : Nat) (List.length (x :: r)))] [(Nm.slot (36 : Nat), AObj.arr (3 : Nat) (1 : Nat) (0 : Nat) ([D.int IntKind.i64 x] :: List.map (fun z => [D.int IntKind.i64 z]) r))])) (by kernel_rfl) ?_
      rfl
    have c2 : a < (fo.length : Int) := by omega
    have g2 : a < ((iC fo).length : Int) := by rw [iC_len]; exact c2
    obtain ⟨b, rfl⟩ : ∃ b : Nat, a = (b : Int) := ⟨a.toNat, by omega⟩
    have hbx := getI_some (l := fo) (i := b) (by omega)
    have hbD := iC_get hbx
    have hnd : ∀ m, getI fo b = 0 → chainS fo m (b : Int) out = out := fun m h => chain_end (by rw [Int.toNat_natCast]; omega)
    by_cases c3 : getI fo b = 0
    · rw [hnd _ c3]
      rw [c3] at hbD
      obtain ⟨x, r, rfl⟩ := List.exists_cons_of_ne_nil h0
      subst h2; subst h3
      refine loop_step hp ?_
      conv => lhs; whnf
      refine iteK_dec_t g2 ?_
      conv => lhs; whnf
      refine iteK_dec_t g2 ?_
      conv => lhs; whnf
      refine iteK_dec_t g2 ?_
      conv => lhs; whnf
      refine iteK_dec_t g2 ?_
      conv => lhs; whnf
      refine nextK_of (aop_ix rfl rfl rfl rfl (ixL_at' (n := b) rfl hbD rfl)) ?_
      conv => lhs; whnf
      refine iteK_dec_t g2 ?_
      conv => lhs; whnf
      refine iteK_dec_t g2 ?_
      conv => lhs; whnf
      refine iteK_dec_t g2 ?_
      conv => lhs; whnf
      refine Eq.trans (b := some (Fx.exit (0 : Nat), St.mk [((5 : Nat), AV.own (Nm.slot (36 : Nat)) (0 : Nat) (List.length (x :: r)))] [(Nm.slot (36 : Nat), AObj.arr (3 : Nat) (1 : Nat) (0 : Nat) ([D.int IntKind.i64 x] :: List.map (fun z => [D.int IntKind.i64 z]) r))])) (by kernel_rfl) ?_
      rfl
    have hfull : ¬ ((oD.take no).length : Int) < 16 := by rw [h2, h3, iC_full, iC_len]; omega
    have hch : chainS fo 0 (b : Int) out = out := rfl
    rw [hch]
    obtain ⟨x, r, rfl⟩ := List.exists_cons_of_ne_nil h0
    subst h2; subst h3
    generalize getI fo b = v at *
    refine loop_step hp ?_
    conv => lhs; whnf
    refine iteK_dec_t g2 ?_
    conv => lhs; whnf
    refine iteK_dec_t g2 ?_
    conv => lhs; whnf
    refine iteK_dec_t g2 ?_
    conv => lhs; whnf
    refine iteK_dec_t g2 ?_
    conv => lhs; whnf
    refine nextK_of (aop_ix rfl rfl rfl rfl (ixL_at' (n := b) rfl hbD rfl)) ?_
    conv => lhs; whnf
    refine iteK_dec_t g2 ?_
    conv => lhs; whnf
    refine iteK_dec_t g2 ?_
    conv => lhs; whnf
    refine iteK_dec_t g2 ?_
    conv => lhs; whnf
    refine iteK_bne_t c3 ?_
    conv => lhs; whnf
    refine iteK_bne_t c3 ?_
    conv => lhs; whnf
    refine iteK_bne_t c3 ?_
    conv => lhs; whnf
    refine iteK_bne_t c3 ?_
    conv => lhs; whnf
    refine iteK_dec_f hfull ?_
    conv => lhs; whnf
    refine Eq.trans (b := some (Fx.exit (0 : Nat), St.mk [((5 : Nat), AV.own (Nm.slot (36 : Nat)) (0 : Nat) (List.length (x :: r)))] [(Nm.slot (36 : Nat), AObj.arr (3 : Nat) (1 : Nat) (0 : Nat) ([D.int IntKind.i64 x] :: List.map (fun z => [D.int IntKind.i64 z]) r))])) (by kernel_rfl) ?_
    rfl
  | succ m ihm =>
    intro a out no oD lf st h0 h1 h2 h3 hlf hp
    obtain ⟨lf, rfl⟩ : ∃ n, lf = n + 1 := ⟨lf - 1, by omega⟩
    by_cases c1 : ¬ 0 ≤ a
    · have g1 : ¬ a ≥ 0 := by omega
      rw [chain_end (by omega)]
      obtain ⟨x, r, rfl⟩ := List.exists_cons_of_ne_nil h0
      subst h2; subst h3
      refine loop_step hp ?_
      conv => lhs; whnf
      refine iteK_dec_f c1 ?_
      conv => lhs; whnf
      refine iteK_dec_f c1 ?_
      conv => lhs; whnf
      refine iteK_dec_f c1 ?_
      conv => lhs; whnf
      refine iteK_dec_f c1 ?_
      conv => lhs; whnf
      refine iteK_dec_f c1 ?_
      conv => lhs; whnf
      refine iteK_dec_f c1 ?_
      conv => lhs; whnf
      refine Eq.trans (b := some (Fx.exit (0 : Nat), St.mk [((5 : Nat), AV.own (Nm.slot (36 : Nat)) (0 : Nat) (List.length (x :: r)))] [(Nm.slot (36 : Nat), AObj.arr (3 : Nat) (1 : Nat) (0 : Nat) ([D.int IntKind.i64 x] :: List.map (fun z => [D.int IntKind.i64 z]) r))])) (by kernel_rfl) ?_
      rfl
    have c1 : 0 ≤ a := by omega
    have g1 : a ≥ 0 := c1
    by_cases c2 : ¬ a < (fo.length : Int)
    · have g2 : ¬ a < ((iC fo).length : Int) := by rw [iC_len]; exact c2
      rw [chain_end (by omega)]
      obtain ⟨x, r, rfl⟩ := List.exists_cons_of_ne_nil h0
      subst h2; subst h3
      refine loop_step hp ?_
      conv => lhs; whnf
      refine iteK_dec_t c1 ?_
      conv => lhs; whnf
      refine iteK_dec_t c1 ?_
      conv => lhs; whnf
      refine iteK_dec_t c1 ?_
      conv => lhs; whnf
      refine iteK_dec_t c1 ?_
      conv => lhs; whnf
      refine iteK_dec_t c1 ?_
      conv => lhs; whnf
      refine iteK_dec_t c1 ?_
      conv => lhs; whnf
      refine iteK_dec_f g2 ?_
      conv => lhs; whnf
      refine iteK_dec_f g2 ?_
      conv => lhs; whnf
      refine iteK_dec_f g2 ?_
      conv => lhs; whnf
      refine iteK_dec_f g2 ?_
      conv => lhs; whnf
      refine iteK_dec_f g2 ?_
      conv => lhs; whnf
      refine iteK_dec_f g2 ?_
      conv => lhs; whnf
      refine iteK_dec_f g2 ?_
      conv => lhs; whnf
      refine Eq.trans (b := some (Fx.exit (0 : Nat), St.mk [((5 : Nat), AV.own (Nm.slot (36 : Nat)) (0 : Nat) (List.length (x :: r)))] [(Nm.slot (36 : Nat), AObj.arr (3 : Nat) (1 : Nat) (0 : Nat) ([D.int IntKind.i64 x] :: List.map (fun z => [D.int IntKind.i64 z]) r))])) (by kernel_rfl) ?_
      rfl
    have c2 : a < (fo.length : Int) := by omega
    have g2 : a < ((iC fo).length : Int) := by rw [iC_len]; exact c2
    obtain ⟨b, rfl⟩ : ∃ b : Nat, a = (b : Int) := ⟨a.toNat, by omega⟩
    have hbx := getI_some (l := fo) (i := b) (by omega)
    have hbD := iC_get hbx
    have hgo := @chain_go fo m (b : Int) out c1 c2
    rw [Int.toNat_natCast] at hgo
    have hnd : ∀ m, getI fo b = 0 → chainS fo m (b : Int) out = out := fun m h => chain_end (by rw [Int.toNat_natCast]; omega)
    by_cases c3 : getI fo b = 0
    · rw [hnd _ c3]
      rw [c3] at hbD
      obtain ⟨x, r, rfl⟩ := List.exists_cons_of_ne_nil h0
      subst h2; subst h3
      refine loop_step hp ?_
      conv => lhs; whnf
      refine iteK_dec_t g2 ?_
      conv => lhs; whnf
      refine iteK_dec_t g2 ?_
      conv => lhs; whnf
      refine iteK_dec_t g2 ?_
      conv => lhs; whnf
      refine iteK_dec_t g2 ?_
      conv => lhs; whnf
      refine nextK_of (aop_ix rfl rfl rfl rfl (ixL_at' (n := b) rfl hbD rfl)) ?_
      conv => lhs; whnf
      refine iteK_dec_t g2 ?_
      conv => lhs; whnf
      refine iteK_dec_t g2 ?_
      conv => lhs; whnf
      refine iteK_dec_t g2 ?_
      conv => lhs; whnf
      refine Eq.trans (b := some (Fx.exit (0 : Nat), St.mk [((5 : Nat), AV.own (Nm.slot (36 : Nat)) (0 : Nat) (List.length (x :: r)))] [(Nm.slot (36 : Nat), AObj.arr (3 : Nat) (1 : Nat) (0 : Nat) ([D.int IntKind.i64 x] :: List.map (fun z => [D.int IntKind.i64 z]) r))])) (by kernel_rfl) ?_
      rfl
    have hnf : ((oD.take no).length : Int) < 16 := by rw [h2, h3, iC_full, iC_len]; omega
    have hno : no ≤ 5000 := by omega
    rw [hgo c3 (by omega)]
    have hih := fun lf st => ihm (getI fo b) (out ++ [getI fo b]) (no + [[D.int .i64 (getI fo b)]].length) (oD.take no ++ [[D.int .i64 (getI fo b)]]) lf st (by simp) (by rw [List.length_append, List.length_singleton]; omega) (by rw [h2, List.length_append]; rfl) (by rw [h3, h2, iC_app])
    generalize getI fo b = v at *
    generalize chainS fo m v (out ++ [v]) = Q at *
    refine loop_step hp ?_
    conv => lhs; whnf
    refine iteK_dec_t g2 ?_
    conv => lhs; whnf
    refine iteK_dec_t g2 ?_
    conv => lhs; whnf
    refine iteK_dec_t g2 ?_
    conv => lhs; whnf
    refine iteK_dec_t g2 ?_
    conv => lhs; whnf
    refine nextK_of (aop_ix rfl rfl rfl rfl (ixL_at' (n := b) rfl hbD rfl)) ?_
    conv => lhs; whnf
    refine iteK_dec_t g2 ?_
    conv => lhs; whnf
    refine iteK_dec_t g2 ?_
    conv => lhs; whnf
    refine iteK_dec_t g2 ?_
    conv => lhs; whnf
    refine iteK_bne_t c3 ?_
    conv => lhs; whnf
    refine iteK_bne_t c3 ?_
    conv => lhs; whnf
    refine iteK_bne_t c3 ?_
    conv => lhs; whnf
    refine iteK_bne_t c3 ?_
    conv => lhs; whnf
    refine iteK_dec_t hnf ?_
    conv => lhs; whnf
    refine nextK_of (aop_ix rfl rfl rfl rfl (ixL_at' (n := b) rfl hbD rfl)) ?_
    conv => lhs; whnf
    refine nextK_of (aop_app rfl rfl rfl rfl rfl rfl rfl rfl rfl rfl rfl rfl (lenI1 (by omega))) ?_
    conv => lhs; whnf
    refine Eq.trans (hih lf _ (by omega) rfl) ?_
    rfl
theorem chNil (fo de jo : List Int) (j : Nat) {lp : LP} (hlp : lp = lpOf Try.prog cfg (icall Try.prog cfg j) Try.f19.ntmps 19 j (([] : Hp).map (·.1))) (a : Int) (lf : Nat) (st : St) (hlf : 16 < lf) (hp : prune [] [1, 2, 5] st = some ⟨chF a .nilsl, chH fo de jo []⟩) :
      loopK Try.prog cfg (icall Try.prog cfg j) lp Try.f19.ntmps 19 [] (bodyAt Try.f19 2) lf st (exitP [] (some [5])) = chY (chainS fo 16 a []) := by
  obtain ⟨lf, rfl⟩ : ∃ n, lf = n + 1 := ⟨lf - 1, by omega⟩
  by_cases c1 : ¬ 0 ≤ a
  · have g1 : ¬ a ≥ 0 := by omega
    rw [chain_end (by omega)]
    refine loop_step hp ?_
    conv => lhs; whnf
    refine iteK_dec_f c1 ?_
    conv => lhs; whnf
    refine iteK_dec_f c1 ?_
    conv => lhs; whnf
    refine iteK_dec_f c1 ?_
    conv => lhs; whnf
    refine iteK_dec_f c1 ?_
    conv => lhs; whnf
    refine iteK_dec_f c1 ?_
    conv => lhs; whnf
    refine iteK_dec_f c1 ?_
    conv => lhs; whnf
    refine Eq.trans (b := some (Fx.exit (0 : Nat), St.mk [((5 : Nat), AV.nilsl)] [])) (by kernel_rfl) ?_
    rfl
  have c1 : 0 ≤ a := by omega
  have g1 : a ≥ 0 := c1
  by_cases c2 : ¬ a < (fo.length : Int)
  · have g2 : ¬ a < ((iC fo).length : Int) := by rw [iC_len]; exact c2
    rw [chain_end (by omega)]
    refine loop_step hp ?_
    conv => lhs; whnf
    refine iteK_dec_t c1 ?_
    conv => lhs; whnf
    refine iteK_dec_t c1 ?_
    conv => lhs; whnf
    refine iteK_dec_t c1 ?_
    conv => lhs; whnf
    refine iteK_dec_t c1 ?_
    conv => lhs; whnf
    refine iteK_dec_t c1 ?_
    conv => lhs; whnf
    refine iteK_dec_t c1 ?_
    conv => lhs; whnf
    refine iteK_dec_f g2 ?_
    conv => lhs; whnf
    refine iteK_dec_f g2 ?_
    conv => lhs; whnf
    refine iteK_dec_f g2 ?_
    conv => lhs; whnf
    refine iteK_dec_f g2 ?_
    conv => lhs; whnf
    refine iteK_dec_f g2 ?_
    conv => lhs; whnf
    refine iteK_dec_f g2 ?_
    conv => lhs; whnf
    refine iteK_dec_f g2 ?_
    conv => lhs; whnf
    refine Eq.trans (b := some (Fx.exit (0 : Nat), St.mk [((5 : Nat), AV.nilsl)] [])) (by kernel_rfl) ?_
    rfl
  have c2 : a < (fo.length : Int) := by omega
  have g2 : a < ((iC fo).length : Int) := by rw [iC_len]; exact c2
  obtain ⟨b, rfl⟩ : ∃ b : Nat, a = (b : Int) := ⟨a.toNat, by omega⟩
  have hbx := getI_some (l := fo) (i := b) (by omega)
  have hbD := iC_get hbx
  have hgo := @chain_go fo 15 (b : Int) [] c1 c2
  rw [Int.toNat_natCast] at hgo
  have hnd : ∀ m, getI fo b = 0 → chainS fo m (b : Int) [] = [] := fun m h => chain_end (by rw [Int.toNat_natCast]; omega)
  by_cases c3 : getI fo b = 0
  · rw [hnd _ c3]
    rw [c3] at hbD
    refine loop_step hp ?_
    conv => lhs; whnf
    refine iteK_dec_t g2 ?_
    conv => lhs; whnf
    refine iteK_dec_t g2 ?_
    conv => lhs; whnf
    refine iteK_dec_t g2 ?_
    conv => lhs; whnf
    refine iteK_dec_t g2 ?_
    conv => lhs; whnf
    refine nextK_of (aop_ix rfl rfl rfl rfl (ixL_at' (n := b) rfl hbD rfl)) ?_
    conv => lhs; whnf
    refine iteK_dec_t g2 ?_
    conv => lhs; whnf
    refine iteK_dec_t g2 ?_
    conv => lhs; whnf
    refine iteK_dec_t g2 ?_
    conv => lhs; whnf
    refine Eq.trans (b := some (Fx.exit (0 : Nat), St.mk [((5 : Nat), AV.nilsl)] [])) (by kernel_rfl) ?_
    rfl
  rw [hgo c3 (by decide)]
  have hih := fun lf st => chOwn fo de jo j hlp 15 (getI fo b) [getI fo b] 1 [[D.int .i64 (getI fo b)]] lf st (by simp) (by simp) rfl rfl
  rw [List.nil_append]
  generalize getI fo b = v at *
  generalize chainS fo 15 v [v] = Q at *
  refine loop_step hp ?_
  conv => lhs; whnf
  refine iteK_dec_t g2 ?_
  conv => lhs; whnf
  refine iteK_dec_t g2 ?_
  conv => lhs; whnf
  refine iteK_dec_t g2 ?_
  conv => lhs; whnf
  refine iteK_dec_t g2 ?_
  conv => lhs; whnf
  refine nextK_of (aop_ix rfl rfl rfl rfl (ixL_at' (n := b) rfl hbD rfl)) ?_
  conv => lhs; whnf
  refine iteK_dec_t g2 ?_
  conv => lhs; whnf
  refine iteK_dec_t g2 ?_
  conv => lhs; whnf
  refine iteK_dec_t g2 ?_
  conv => lhs; whnf
  refine iteK_bne_t c3 ?_
  conv => lhs; whnf
  refine iteK_bne_t c3 ?_
  conv => lhs; whnf
  refine iteK_bne_t c3 ?_
  conv => lhs; whnf
  refine iteK_bne_t c3 ?_
  conv => lhs; whnf
  refine nextK_of (aop_ix rfl rfl rfl rfl (ixL_at' (n := b) rfl hbD rfl)) ?_
  conv => lhs; whnf
  refine Eq.trans (hih lf _ (by omega) rfl) ?_
  rfl
theorem forks19 (fo de jo : List Int) (a : Int) (k : Nat) (hk : 5200 ≤ k) (hlen : (chainS fo 16 a []).length ≤ 16) : icall Try.prog cfg k 19 [shV fo de jo, .d (.int .i64 a)] [] = some (.ret (.d (.list (iC (chainS fo 16 a []).reverse))), []) := by
  unfold shV
  obtain ⟨k, rfl⟩ : ∃ j, k = j + 1 := ⟨k - 1, by omega⟩
  have hL := fun lf st => chNil fo de jo k rfl a lf st
  generalize chainS fo 16 a [] = q at *
  have hlf : 16 < k := by omega
  cases q with
  | nil =>
    simp only [chY] at hL
    have c := rev0 k (by omega)
    rw [icall_body rfl Try.func19]
    obtain ⟨lp, hlp⟩ : ∃ lp, lp = lpOf Try.prog cfg (icall Try.prog cfg k) Try.f19.ntmps 19 k (([] : Hp).map (·.1)) := ⟨_, rfl⟩
    rw [← hlp]
    rw [← (show lp = lpOf Try.prog cfg (icall Try.prog cfg k) Try.f19.ntmps 19 k (([] : Hp).map (·.1)) from hlp)] at hL
    conv => lhs; whnf
    refine nextK_of (loop_at hlp (hL k _ hlf rfl)) ?_
    conv => lhs; whnf
    refine nextK_of c ?_
    conv => lhs; whnf
    refine Eq.trans (b := some (Res.ret (AV.d (D.list [])), [])) (by kernel_rfl) ?_
    rfl
  | cons x r =>
    simp only [chY] at hL
    have c := rev33 (x :: r) (by simp) (by omega) k (by omega)
    have ht : (iC (x :: r).reverse).take (x :: r).length = iC (x :: r).reverse := iC_fullN (List.length_reverse ..)
    generalize (x :: r).reverse = R at *
    generalize x :: r = L at *
    rw [icall_body rfl Try.func19]
    obtain ⟨lp, hlp⟩ : ∃ lp, lp = lpOf Try.prog cfg (icall Try.prog cfg k) Try.f19.ntmps 19 k (([] : Hp).map (·.1)) := ⟨_, rfl⟩
    rw [← hlp]
    rw [← (show lp = lpOf Try.prog cfg (icall Try.prog cfg k) Try.f19.ntmps 19 k (([] : Hp).map (·.1)) from hlp)] at hL
    conv => lhs; whnf
    refine nextK_of (loop_at hlp (hL k _ hlf rfl)) ?_
    conv => lhs; whnf
    refine nextK_of c ?_
    conv => lhs; whnf
    refine Eq.trans (b := some (Res.ret (AV.d (D.list (List.take (List.length L) (iC R)))), [])) (by kernel_rfl) ?_
    (exact congrArg (fun x => some (Res.ret (AV.d (D.list x)), ([] : Hp))) ht)
end Go.Rx12
