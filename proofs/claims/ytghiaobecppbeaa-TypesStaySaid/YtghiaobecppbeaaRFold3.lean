/- A part of the proof of the law: what functions of the program come to, walked by Rx, or plain facts on it. -/
import Derived.Test.YtghiaobecppbeaaRFold2
open Go Go.Rx Go.Proofs Go.Rx08 Go.RxTree
set_option maxRecDepth 1000000
set_option maxHeartbeats 4000000
set_option linter.unusedVariables false
set_option linter.unusedSimpArgs false
namespace Go.Rx08
theorem cells1 (x : T) : cellsL [x] = [[.int .i64 x.kind, .int .i64 x.n, .str x.name, .list (cellsL x.kids)]] := by simp [cellsL, cells_eq]
theorem cells2 (x y : T) : cellsL [x, y] = [[.int .i64 x.kind, .int .i64 x.n, .str x.name, .list (cellsL x.kids)], [.int .i64 y.kind, .int .i64 y.n, .str y.name, .list (cellsL y.kids)]] := by simp [cellsL, cells_eq]
theorem mk1_av (k n : Int) (s : List UInt8) (x : T) : (T.mk k n s [x]).av = .agg [.d (.int .i64 k), .d (.int .i64 n), .d (.str s), .d (.list [[.int .i64 x.kind, .int .i64 x.n, .str x.name, .list (cellsL x.kids)]])] := by rw [← cells1]; rfl
theorem mk2_av (k n : Int) (s : List UInt8) (x y : T) : (T.mk k n s [x, y]).av = .agg [.d (.int .i64 k), .d (.int .i64 n), .d (.str s), .d (.list [[.int .i64 x.kind, .int .i64 x.n, .str x.name, .list (cellsL x.kids)], [.int .i64 y.kind, .int .i64 y.n, .str y.name, .list (cellsL y.kids)]])] := by rw [← cells2]; rfl
theorem fold36 : ∀ (m : Nat) (t : T) (d : Int), t.wt ≤ m → t.Ok → checkT t d = 0 → ∀ k, t.wt + 3 < k → icall Try.prog cfg k 36 [t.av] [] = some (.ret (foldT t).av, []) := by
  intro m
  induction m with
  | zero => intro t d h; rw [T.wt_eq] at h; omega
  | succ m ihm =>
  intro t d hm ho hc k hk
  obtain ⟨x, n, s, l⟩ := t
  obtain ⟨c1, c2, c3, c4⟩ := checkT_inv hc
  obtain ⟨o1, o2, o3, o4, o5⟩ := ho
  rw [T.wt] at hm hk
  obtain ⟨k, rfl⟩ : ∃ j, k = j + 1 := ⟨k - 1, by omega⟩
  have ih : ∀ y ∈ l, icall Try.prog cfg k 36 [y.av] [] = some (.ret (foldT y).av, []) := fun y hy => ihm y (d + 1) (by have := wtL_mem l y hy; omega) (OkL_mem o5 hy) (checkL_mem c4 hy) k (by have := wtL_mem l y hy; omega)
  have hn : ∀ y ∈ l, InN (foldT y).n := fun y hy => fold_n y.wt y (d + 1) (Nat.le_refl _) (OkL_mem o5 hy) (checkL_mem c4 hy)
  rcases forms (s := s) c2 with ⟨rfl, hk4⟩ | ⟨a, rfl, hk5, rfl⟩ | ⟨a, b, rfl, hk7, rfl⟩
  · rw [foldT_0]
    show icall Try.prog cfg _ _ [.agg [.d (.int .i64 x), .d (.int .i64 n), .d (.str s), .d (.list (cellsL []))]] [] = _
    rw [icall_body rfl Try.func36]
    obtain ⟨lp, hlp⟩ : ∃ lp, lp = lpOf Try.prog cfg (icall Try.prog cfg k) Try.f36.ntmps 36 k (([] : Hp).map (·.1)) := ⟨_, rfl⟩
    rw [← hlp]
    conv => lhs; whnf
    refine Eq.trans (b := some (Res.ret (AV.agg [AV.d (D.int IntKind.i64 x), AV.d (D.int IntKind.i64 n), AV.d (D.str s), AV.d (D.list (cellsL []))]), [])) (by kernel_rfl) ?_
    rfl
  · rw [foldT_1, mk1_av]
    have ca := ih a (by simp)
    have pa := plain51 (foldT a) k (by omega)
    generalize foldT a = f at ca pa
    have kx : x ≠ 1 ∧ x ≠ 7 := by omega
    rw [icall_body rfl Try.func36]
    obtain ⟨lp, hlp⟩ : ∃ lp, lp = lpOf Try.prog cfg (icall Try.prog cfg k) Try.f36.ntmps 36 k (([] : Hp).map (·.1)) := ⟨_, rfl⟩
    rw [← hlp]
    conv => lhs; whnf
    refine nextK_of ca ?_
    conv => lhs; whnf
    refine iteK_beq (fun h1 => ?_) (fun h1 => ?_)
    · obtain rfl : x = (6 : Int) := h1
      conv => lhs; whnf
      refine nextK_b pa (fun h2 => ?_) (fun h2 => ?_)
      · conv => lhs; whnf
        refine nextK_of (yes52 _ k (by omega)) ?_
        conv => lhs; whnf
        refine Eq.trans (b := some (Res.ret (AV.agg [AV.d (D.int IntKind.i64 (T.kind (yesT (T.kind f == (4 : Int))))), AV.d (D.int IntKind.i64 (T.n (yesT (T.kind f == (4 : Int))))), AV.d (D.str (T.name (yesT (T.kind f == (4 : Int))))), AV.d (D.list (cellsL (T.kids (yesT (T.kind f == (4 : Int))))))]), [])) (by kernel_rfl) ?_
        (unfold oneT; rw [if_pos ⟨rfl, by assumption⟩, show decide (f.kind = 4) = (f.kind == 4) by by_cases h : f.kind = 4; (rw [beq_t h, dec_t h]); (rw [beq_f h, dec_f h])]; rfl)
      · conv => lhs; whnf
        refine Eq.trans (b := some (Res.ret (AV.agg [AV.d (D.int IntKind.i64 (6 : Int)), AV.d (D.int IntKind.i64 (0 : Int)), AV.d (D.str []), AV.d (D.list [[D.int IntKind.i64 (T.kind f), D.int IntKind.i64 (T.n f), D.str (T.name f), D.list (cellsL (T.kids f))]])]), [])) (by kernel_rfl) ?_
        (unfold oneT; rw [if_neg (by simp [*]), if_neg (by simp [*]), mk1_av])
    · rw [beq_f h1]
      conv => lhs; whnf
      refine iteK_beq (fun h2 => ?_) (fun h2 => ?_)
      · obtain rfl : x = (5 : Int) := h2
        conv => lhs; whnf
        refine iteK_beq (fun h3 => ?_) (fun h3 => ?_)
        · rw [beq_t h3]
          conv => lhs; whnf
          refine iteK_beq (fun h4 => ?_) (fun h4 => ?_)
          · rw [beq_t h4]
            conv => lhs; whnf
            refine Eq.trans (b := some (Res.ret (AV.agg [AV.d (D.int IntKind.i64 (T.kind f)), AV.d (D.int IntKind.i64 (T.n f)), AV.d (D.str (T.name f)), AV.d (D.list (cellsL (T.kids f)))]), [])) (by kernel_rfl) ?_
            (unfold oneT; rw [if_neg (by simp [*]), if_pos (by simp [*])]; rfl)
          · rw [beq_f h4]
            conv => lhs; whnf
            refine Eq.trans (b := some (Res.ret (AV.agg [AV.d (D.int IntKind.i64 (5 : Int)), AV.d (D.int IntKind.i64 (0 : Int)), AV.d (D.str []), AV.d (D.list [[D.int IntKind.i64 (T.kind f), D.int IntKind.i64 (T.n f), D.str (T.name f), D.list (cellsL (T.kids f))]])]), [])) (by kernel_rfl) ?_
            (unfold oneT; rw [if_neg (by simp [*]), if_neg (by simp [*]), mk1_av])
        · rw [beq_f h3]
          conv => lhs; whnf
          refine Eq.trans (b := some (Res.ret (AV.agg [AV.d (D.int IntKind.i64 (5 : Int)), AV.d (D.int IntKind.i64 (0 : Int)), AV.d (D.str []), AV.d (D.list [[D.int IntKind.i64 (T.kind f), D.int IntKind.i64 (T.n f), D.str (T.name f), D.list (cellsL (T.kids f))]])]), [])) (by kernel_rfl) ?_
          (unfold oneT; rw [if_neg (by simp [*]), if_neg (by simp [*]), mk1_av])
      · rw [beq_f h2]
        (exfalso; omega)
  · rw [foldT_2, mk2_av]
    have ca := ih a (by simp)
    have cb := ih b (by simp)
    have c2 := two50 x (foldT a) (foldT b) (hn a (by simp)) (hn b (by simp)) k (by omega)
    generalize foldT a = f at ca c2
    generalize foldT b = g at cb c2
    rw [icall_body rfl Try.func36]
    obtain ⟨lp, hlp⟩ : ∃ lp, lp = lpOf Try.prog cfg (icall Try.prog cfg k) Try.f36.ntmps 36 k (([] : Hp).map (·.1)) := ⟨_, rfl⟩
    rw [← hlp]
    conv => lhs; whnf
    refine nextK_of ca ?_
    conv => lhs; whnf
    refine nextK_of cb ?_
    conv => lhs; whnf
    refine nextK_of c2 ?_
    conv => lhs; whnf
    refine Eq.trans (b := some (Res.ret (AV.agg [AV.d (D.int IntKind.i64 (T.kind (twoT x f g))), AV.d (D.int IntKind.i64 (T.n (twoT x f g))), AV.d (D.str (T.name (twoT x f g))), AV.d (D.list (cellsL (T.kids (twoT x f g))))]), [])) (by kernel_rfl) ?_
    rfl
end Go.Rx08
