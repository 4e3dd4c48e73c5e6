/- A part of the proof of the law: what functions of the program come to, walked by Rx, or plain facts on it. -/
import Derived.Test.YtghiaobecppbeaaRLawOf
import Derived.Test.YtghiaobecppbeaaRSpecP
open Go Go.Rx Go.Proofs Go.Rx08 Go.RxTree
set_option maxRecDepth 1000000
set_option maxHeartbeats 4000000
set_option linter.unusedVariables false
set_option linter.unusedSimpArgs false
namespace Go.Rx08
theorem parts7L (j : Nat) (t u : T) (a b : Bool) (hm : t.kids.length ≤ maxLen)
    (ih : ∀ x : T, x ∈ t.kids → ∃ c : Bool, icall Try.prog cfg j 11 [x.av] [] = some (.ret (.tuple [.d (.bool c), .d (.int .i64 0)]), [])) {lp : LP} (hlp : lp = lpOf Try.prog cfg (icall Try.prog cfg j) Try.f7.ntmps 7 j (([] : Hp).map (·.1))) :
    ∀ (m i : Nat) (z : Int)  (lf : Nat) (st : St), (t.kids).length - i = m → i ≤ (t.kids).length → z = (i : Int) → m < lf → prune [] [2, 3, 5, 7, 9] st = some ⟨[(2, .ptr (.slot 2) 0), (3, .ptr (.slot 3) 0), (5, .d (.bool a)), (7, .d (.bool b)), (9, .d (.int .i64 z))], [(.slot 2, .cells [.d (.int .i64 t.kind), .d (.int .i64 t.n), .d (.str t.name), .d (.list (cellsL t.kids))]), (.slot 3, .cells [.d (.int .i64 u.kind), .d (.int .i64 u.n), .d (.str u.name), .d (.list (cellsL u.kids))])]⟩ →
      loopK Try.prog cfg (icall Try.prog cfg j) lp Try.f7.ntmps 7 [] (bodyAt Try.f7 8) lf st (exitP [] (some [2, 3, 4, 5, 7])) = some (.exit 0, ⟨[(2, .ptr (.slot 2) 0), (3, .ptr (.slot 3) 0), (4, .undef), (5, .d (.bool a)), (7, .d (.bool b))], [(.slot 2, .cells [.d (.int .i64 t.kind), .d (.int .i64 t.n), .d (.str t.name), .d (.list (cellsL t.kids))]), (.slot 3, .cells [.d (.int .i64 u.kind), .d (.int .i64 u.n), .d (.str u.name), .d (.list (cellsL u.kids))])]⟩) := by
  intro m
  induction m with
  | zero =>
    intro i z  lf st hi hle hz  hlf hp
    obtain ⟨lf, rfl⟩ : ∃ n, lf = n + 1 := ⟨lf - 1, by omega⟩
    refine loop_step hp ?_
    have hend : ¬ z < ((cellsL t.kids).length : Int) := by rw [cellsL_len]; omega
    conv => lhs; whnf
    refine iteK_dec_f hend ?_
    conv => lhs; whnf
    refine Eq.trans (b := some (Fx.exit (0 : Nat), St.mk [((2 : Nat), AV.ptr (Nm.slot (2 : Nat)) (0 : Nat)), ((3 : Nat), AV.ptr (Nm.slot (3 : Nat)) (0 : Nat)), ((4 : Nat), AV.undef), ((5 : Nat), AV.d (D.bool a)), ((7 : Nat), AV.d (D.bool b))] [(Nm.slot (2 : Nat), AObj.cells [AV.d (D.int IntKind.i64 (T.kind t)), AV.d (D.int IntKind.i64 (T.n t)), AV.d (D.str (T.name t)), AV.d (D.list (cellsL (T.kids t)))]), (Nm.slot (3 : Nat), AObj.cells [AV.d (D.int IntKind.i64 (T.kind u)), AV.d (D.int IntKind.i64 (T.n u)), AV.d (D.str (T.name u)), AV.d (D.list (cellsL (T.kids u)))])])) (by kernel_rfl) ?_
    rfl
  | succ m ihm =>
    intro i z  lf st hi hle hz  hlf hp
    obtain ⟨lf, rfl⟩ : ∃ n, lf = n + 1 := ⟨lf - 1, by omega⟩
    refine loop_step hp ?_
    have hend : z < ((cellsL t.kids).length : Int) := by rw [cellsL_len]; omega
    have hx : t.kids[i]? = some t.kids[i] := List.getElem?_eq_getElem (by omega)
    generalize t.kids[i] = x at hx
    obtain ⟨c, hc⟩ := ih x (List.mem_of_getElem? hx)
    conv => lhs; whnf
    refine iteK_dec_t hend ?_
    conv => lhs; whnf
    refine nextK_of (aop_ix rfl rfl rfl rfl (ixL_at' hz (cellsL_get _ _ _ hx) rfl)) ?_
    conv => lhs; whnf
    refine nextK_of hc ?_
    conv => lhs; whnf
    refine Eq.trans (ihm (i + 1) _ lf _ (by omega) (by omega) (wrap_up hz (by omega)) (by omega) rfl) ?_
    rfl
theorem weight14' (t : T) (most : Int) (ho : t.Ok) (h1 : 0 ≤ most) (h2 : most ≤ 1099511627776) (k : Nat) (hk : t.wt + 1 < k) : ∃ r, icall Try.prog cfg k 22 [t.av, .d (.int .i64 most)] [] = some (.ret (.d (.int .i64 r)), []) := ⟨_, weight14 t most ho h1 h2 k hk⟩
theorem law7 (x : T) (ox : x.Ok) (sx : x.Sm) (y : T) (oy : y.Ok) (sy : y.Sm) (k : Nat) (hk : x.wt + y.wt + 60 < k) : icall Try.prog cfg k 7 [x.av, y.av] [] = some (.ret (.d (.bool true)), []) := by
  obtain ⟨k, rfl⟩ : ∃ j, k = j + 1 := ⟨k - 1, by omega⟩
  have lx := light9 x ox k (by omega)
  have ly := light9 y oy k (by omega)
  generalize decide (weighT x 500 30 ≤ 500) = bx at lx
  generalize decide (weighT y 500 30 ≤ 500) = bY at ly
  obtain ⟨rx, wx⟩ := weight14' x 60 ox (by omega) (by omega) k (by omega)
  obtain ⟨ry, wy⟩ := weight14' y 60 oy (by omega) (by omega) k (by omega)
  have cx := truth85 x sx ox k (by omega)
  have cy := truth85 y sy oy k (by omega)
  have hmk : (T.mk 11 0 [] [x, y]).wt + 2 < k := by simp [T.wt, wtL]; omega
  have ce : cellsL [x, y] = [[.int .i64 x.kind, .int .i64 x.n, .str x.name, .list (cellsL x.kids)], [.int .i64 y.kind, .int .i64 y.n, .str y.name, .list (cellsL y.kids)]] := by simp [cellsL, cells_eq]
  have c3 : icall Try.prog cfg k 11 [.agg [.d (.int .i64 11), .d (.int .i64 0), .d (.str []), .d (.list [[.int .i64 x.kind, .int .i64 x.n, .str x.name, .list (cellsL x.kids)], [.int .i64 y.kind, .int .i64 y.n, .str y.name, .list (cellsL y.kids)]])]] [] = some (.ret (.tuple [.d (.bool (truthP (.mk 11 0 [] [x, y])).1), .d (.int .i64 (truthP (.mk 11 0 [] [x, y])).2)]), []) := by
    rw [← ce]
    exact truth85 (.mk 11 0 [] [x, y]) ⟨by simp, sx, sy, trivial⟩ ⟨by decide, by decide, by simp, by simp [maxLen], ox, oy, trivial⟩ k hmk
  have hp := fun a h => @parts_ok x a h
  have he := fun a b h h' => @put_eq x y a b h h'
  obtain ⟨a, ea⟩ : ∃ a, a = truthP x := ⟨_, rfl⟩
  obtain ⟨b, eb⟩ : ∃ b, b = truthP y := ⟨_, rfl⟩
  obtain ⟨a, e⟩ := a
  obtain ⟨b, f⟩ := b
  rw [← ea] at cx hp he
  rw [← eb] at cy he
  show icall Try.prog cfg _ _ [.agg [.d (.int .i64 x.kind), .d (.int .i64 x.n), .d (.str x.name), .d (.list (cellsL x.kids))], .agg [.d (.int .i64 y.kind), .d (.int .i64 y.n), .d (.str y.name), .d (.list (cellsL y.kids))]] [] = _
  have wk := works10 k (by omega)
  by_cases h0 : e = 0 ∧ f = 0
  · obtain ⟨rfl, rfl⟩ := h0
    have hp := hp a rfl
    have ih : ∀ z : T, z ∈ x.kids → ∃ c : Bool, icall Try.prog cfg k 11 [z.av] [] = some (.ret (.tuple [.d (.bool c), .d (.int .i64 0)]), []) := fun z hz => by
      have h1 := truth85 z (SmL_mem ((T.sm_eq x).1 sx).2 hz) (OkL_mem ((T.ok_eq x).1 ox).2.2.2.2 hz) k (by have := wtL_mem x.kids z hz; have := T.wt_eq x; omega)
      rw [hp z hz] at h1
      exact ⟨_, h1⟩
    have hwl := wtL_len x.kids
    have hwx := T.wt_eq x
    rcases he a b rfl rfl with he | he
    · rw [he] at c3
      rw [icall_body rfl Try.func7]
      obtain ⟨lp, hlp⟩ : ∃ lp, lp = lpOf Try.prog cfg (icall Try.prog cfg k) Try.f7.ntmps 7 k (([] : Hp).map (·.1)) := ⟨_, rfl⟩
      rw [← hlp]
      conv => lhs; whnf
      refine nextK_b lx (fun h1 => ?_) (fun h1 => ?_)
      · conv => lhs; whnf
        refine nextK_b ly (fun h2 => ?_) (fun h2 => ?_)
        · conv => lhs; whnf
          refine nextK_of wx ?_
          conv => lhs; whnf
          refine iteK_dec (fun h3 => ?_) (fun h3 => ?_)
          · rw [dec_t h3]
            conv => lhs; whnf
            refine nextK_of wk ?_
            conv => lhs; whnf
            refine Eq.trans (b := some (Res.ret (AV.d (D.bool true)), [])) (by kernel_rfl) ?_
            rfl
          · rw [dec_f h3]
            conv => lhs; whnf
            refine nextK_of wy ?_
            conv => lhs; whnf
            refine iteK_dec (fun h4 => ?_) (fun h4 => ?_)
            · rw [dec_t h4]
              conv => lhs; whnf
              refine nextK_of wk ?_
              conv => lhs; whnf
              refine Eq.trans (b := some (Res.ret (AV.d (D.bool true)), [])) (by kernel_rfl) ?_
              rfl
            · rw [dec_f h4]
              conv => lhs; whnf
              refine nextK_of cx ?_
              conv => lhs; whnf
              refine nextK_of cy ?_
              conv => lhs; whnf
              refine nextK_of (loop_at hlp (parts7L k x y a b ((T.ok_eq x).1 ox).2.2.2.1 ih hlp x.kids.length 0 0 k _ rfl (Nat.zero_le _) rfl (by omega) rfl)) ?_
              conv => lhs; whnf
              refine nextK_of c3 ?_
              conv => lhs; whnf
              refine nextK_of wk ?_
              conv => lhs; whnf
              refine Eq.trans (b := some (Res.ret (AV.d (D.bool true)), [])) (by kernel_rfl) ?_
              rfl
        · conv => lhs; whnf
          refine nextK_of wk ?_
          conv => lhs; whnf
          refine Eq.trans (b := some (Res.ret (AV.d (D.bool true)), [])) (by kernel_rfl) ?_
          rfl
      · conv => lhs; whnf
        refine nextK_of wk ?_
        conv => lhs; whnf
        refine Eq.trans (b := some (Res.ret (AV.d (D.bool true)), [])) (by kernel_rfl) ?_
        rfl
    · rw [he] at c3
      cases a <;> cases b
      · rw [icall_body rfl Try.func7]
        obtain ⟨lp, hlp⟩ : ∃ lp, lp = lpOf Try.prog cfg (icall Try.prog cfg k) Try.f7.ntmps 7 k (([] : Hp).map (·.1)) := ⟨_, rfl⟩
        rw [← hlp]
        conv => lhs; whnf
        refine nextK_b lx (fun h1 => ?_) (fun h1 => ?_)
        · conv => lhs; whnf
          refine nextK_b ly (fun h2 => ?_) (fun h2 => ?_)
          · conv => lhs; whnf
            refine nextK_of wx ?_
            conv => lhs; whnf
            refine iteK_dec (fun h3 => ?_) (fun h3 => ?_)
            · rw [dec_t h3]
              conv => lhs; whnf
              refine nextK_of wk ?_
              conv => lhs; whnf
              refine Eq.trans (b := some (Res.ret (AV.d (D.bool true)), [])) (by kernel_rfl) ?_
              rfl
            · rw [dec_f h3]
              conv => lhs; whnf
              refine nextK_of wy ?_
              conv => lhs; whnf
              refine iteK_dec (fun h4 => ?_) (fun h4 => ?_)
              · rw [dec_t h4]
                conv => lhs; whnf
                refine nextK_of wk ?_
                conv => lhs; whnf
                refine Eq.trans (b := some (Res.ret (AV.d (D.bool true)), [])) (by kernel_rfl) ?_
                rfl
              · rw [dec_f h4]
                conv => lhs; whnf
                refine nextK_of cx ?_
                conv => lhs; whnf
                refine nextK_of cy ?_
                conv => lhs; whnf
                refine nextK_of (loop_at hlp (parts7L k x y _ _ ((T.ok_eq x).1 ox).2.2.2.1 ih hlp x.kids.length 0 0 k _ rfl (Nat.zero_le _) rfl (by omega) rfl)) ?_
                conv => lhs; whnf
                refine nextK_of c3 ?_
                conv => lhs; whnf
                refine nextK_of wk ?_
                conv => lhs; whnf
                refine Eq.trans (b := some (Res.ret (AV.d (D.bool true)), [])) (by kernel_rfl) ?_
                rfl
          · conv => lhs; whnf
            refine nextK_of wk ?_
            conv => lhs; whnf
            refine Eq.trans (b := some (Res.ret (AV.d (D.bool true)), [])) (by kernel_rfl) ?_
            rfl
        · conv => lhs; whnf
          refine nextK_of wk ?_
          conv => lhs; whnf
          refine Eq.trans (b := some (Res.ret (AV.d (D.bool true)), [])) (by kernel_rfl) ?_
          rfl
      · rw [icall_body rfl Try.func7]
        obtain ⟨lp, hlp⟩ : ∃ lp, lp = lpOf Try.prog cfg (icall Try.prog cfg k) Try.f7.ntmps 7 k (([] : Hp).map (·.1)) := ⟨_, rfl⟩
        rw [← hlp]
        conv => lhs; whnf
        refine nextK_b lx (fun h1 => ?_) (fun h1 => ?_)
        · conv => lhs; whnf
          refine nextK_b ly (fun h2 => ?_) (fun h2 => ?_)
          · conv => lhs; whnf
            refine nextK_of wx ?_
            conv => lhs; whnf
            refine iteK_dec (fun h3 => ?_) (fun h3 => ?_)
            · rw [dec_t h3]
              conv => lhs; whnf
              refine nextK_of wk ?_
              conv => lhs; whnf
              refine Eq.trans (b := some (Res.ret (AV.d (D.bool true)), [])) (by kernel_rfl) ?_
              rfl
            · rw [dec_f h3]
              conv => lhs; whnf
              refine nextK_of wy ?_
              conv => lhs; whnf
              refine iteK_dec (fun h4 => ?_) (fun h4 => ?_)
              · rw [dec_t h4]
                conv => lhs; whnf
                refine nextK_of wk ?_
                conv => lhs; whnf
                refine Eq.trans (b := some (Res.ret (AV.d (D.bool true)), [])) (by kernel_rfl) ?_
                rfl
              · rw [dec_f h4]
                conv => lhs; whnf
                refine nextK_of cx ?_
                conv => lhs; whnf
                refine nextK_of cy ?_
                conv => lhs; whnf
                refine nextK_of (loop_at hlp (parts7L k x y _ _ ((T.ok_eq x).1 ox).2.2.2.1 ih hlp x.kids.length 0 0 k _ rfl (Nat.zero_le _) rfl (by omega) rfl)) ?_
                conv => lhs; whnf
                refine nextK_of c3 ?_
                conv => lhs; whnf
                refine nextK_of wk ?_
                conv => lhs; whnf
                refine Eq.trans (b := some (Res.ret (AV.d (D.bool true)), [])) (by kernel_rfl) ?_
                rfl
          · conv => lhs; whnf
            refine nextK_of wk ?_
            conv => lhs; whnf
            refine Eq.trans (b := some (Res.ret (AV.d (D.bool true)), [])) (by kernel_rfl) ?_
            rfl
        · conv => lhs; whnf
          refine nextK_of wk ?_
          conv => lhs; whnf
          refine Eq.trans (b := some (Res.ret (AV.d (D.bool true)), [])) (by kernel_rfl) ?_
          rfl
      · rw [icall_body rfl Try.func7]
        obtain ⟨lp, hlp⟩ : ∃ lp, lp = lpOf Try.prog cfg (icall Try.prog cfg k) Try.f7.ntmps 7 k (([] : Hp).map (·.1)) := ⟨_, rfl⟩
        rw [← hlp]
        conv => lhs; whnf
        refine nextK_b lx (fun h1 => ?_) (fun h1 => ?_)
        · conv => lhs; whnf
          refine nextK_b ly (fun h2 => ?_) (fun h2 => ?_)
          · conv => lhs; whnf
            refine nextK_of wx ?_
            conv => lhs; whnf
            refine iteK_dec (fun h3 => ?_) (fun h3 => ?_)
            · rw [dec_t h3]
              conv => lhs; whnf
              refine nextK_of wk ?_
              conv => lhs; whnf
              refine Eq.trans (b := some (Res.ret (AV.d (D.bool true)), [])) (by kernel_rfl) ?_
              rfl
            · rw [dec_f h3]
              conv => lhs; whnf
              refine nextK_of wy ?_
              conv => lhs; whnf
              refine iteK_dec (fun h4 => ?_) (fun h4 => ?_)
              · rw [dec_t h4]
                conv => lhs; whnf
                refine nextK_of wk ?_
                conv => lhs; whnf
                refine Eq.trans (b := some (Res.ret (AV.d (D.bool true)), [])) (by kernel_rfl) ?_
                rfl
              · rw [dec_f h4]
                conv => lhs; whnf
                refine nextK_of cx ?_
                conv => lhs; whnf
                refine nextK_of cy ?_
                conv => lhs; whnf
                refine nextK_of (loop_at hlp (parts7L k x y _ _ ((T.ok_eq x).1 ox).2.2.2.1 ih hlp x.kids.length 0 0 k _ rfl (Nat.zero_le _) rfl (by omega) rfl)) ?_
                conv => lhs; whnf
                refine nextK_of c3 ?_
                conv => lhs; whnf
                refine nextK_of wk ?_
                conv => lhs; whnf
                refine Eq.trans (b := some (Res.ret (AV.d (D.bool true)), [])) (by kernel_rfl) ?_
                rfl
          · conv => lhs; whnf
            refine nextK_of wk ?_
            conv => lhs; whnf
            refine Eq.trans (b := some (Res.ret (AV.d (D.bool true)), [])) (by kernel_rfl) ?_
            rfl
        · conv => lhs; whnf
          refine nextK_of wk ?_
          conv => lhs; whnf
          refine Eq.trans (b := some (Res.ret (AV.d (D.bool true)), [])) (by kernel_rfl) ?_
          rfl
      · rw [icall_body rfl Try.func7]
        obtain ⟨lp, hlp⟩ : ∃ lp, lp = lpOf Try.prog cfg (icall Try.prog cfg k) Try.f7.ntmps 7 k (([] : Hp).map (·.1)) := ⟨_, rfl⟩
        rw [← hlp]
        conv => lhs; whnf
        refine nextK_b lx (fun h1 => ?_) (fun h1 => ?_)
        · conv => lhs; whnf
          refine nextK_b ly (fun h2 => ?_) (fun h2 => ?_)
          · conv => lhs; whnf
            refine nextK_of wx ?_
            conv => lhs; whnf
            refine iteK_dec (fun h3 => ?_) (fun h3 => ?_)
            · rw [dec_t h3]
              conv => lhs; whnf
              refine nextK_of wk ?_
              conv => lhs; whnf
              refine Eq.trans (b := some (Res.ret (AV.d (D.bool true)), [])) (by kernel_rfl) ?_
              rfl
            · rw [dec_f h3]
              conv => lhs; whnf
              refine nextK_of wy ?_
              conv => lhs; whnf
              refine iteK_dec (fun h4 => ?_) (fun h4 => ?_)
              · rw [dec_t h4]
                conv => lhs; whnf
                refine nextK_of wk ?_
                conv => lhs; whnf
                refine Eq.trans (b := some (Res.ret (AV.d (D.bool true)), [])) (by kernel_rfl) ?_
                rfl
              · rw [dec_f h4]
                conv => lhs; whnf
                refine nextK_of cx ?_
                conv => lhs; whnf
                refine nextK_of cy ?_
                conv => lhs; whnf
                refine nextK_of (loop_at hlp (parts7L k x y _ _ ((T.ok_eq x).1 ox).2.2.2.1 ih hlp x.kids.length 0 0 k _ rfl (Nat.zero_le _) rfl (by omega) rfl)) ?_
                conv => lhs; whnf
                refine nextK_of c3 ?_
                conv => lhs; whnf
                refine nextK_of wk ?_
                conv => lhs; whnf
                refine Eq.trans (b := some (Res.ret (AV.d (D.bool true)), [])) (by kernel_rfl) ?_
                rfl
          · conv => lhs; whnf
            refine nextK_of wk ?_
            conv => lhs; whnf
            refine Eq.trans (b := some (Res.ret (AV.d (D.bool true)), [])) (by kernel_rfl) ?_
            rfl
        · conv => lhs; whnf
          refine nextK_of wk ?_
          conv => lhs; whnf
          refine Eq.trans (b := some (Res.ret (AV.d (D.bool true)), [])) (by kernel_rfl) ?_
          rfl
  · rw [icall_body rfl Try.func7]
    obtain ⟨lp, hlp⟩ : ∃ lp, lp = lpOf Try.prog cfg (icall Try.prog cfg k) Try.f7.ntmps 7 k (([] : Hp).map (·.1)) := ⟨_, rfl⟩
    rw [← hlp]
    conv => lhs; whnf
    refine nextK_b lx (fun h1 => ?_) (fun h1 => ?_)
    · conv => lhs; whnf
      refine nextK_b ly (fun h2 => ?_) (fun h2 => ?_)
      · conv => lhs; whnf
        refine nextK_of wx ?_
        conv => lhs; whnf
        refine iteK_dec (fun h3 => ?_) (fun h3 => ?_)
        · rw [dec_t h3]
          conv => lhs; whnf
          refine nextK_of wk ?_
          conv => lhs; whnf
          refine Eq.trans (b := some (Res.ret (AV.d (D.bool true)), [])) (by kernel_rfl) ?_
          rfl
        · rw [dec_f h3]
          conv => lhs; whnf
          refine nextK_of wy ?_
          conv => lhs; whnf
          refine iteK_dec (fun h4 => ?_) (fun h4 => ?_)
          · rw [dec_t h4]
            conv => lhs; whnf
            refine nextK_of wk ?_
            conv => lhs; whnf
            refine Eq.trans (b := some (Res.ret (AV.d (D.bool true)), [])) (by kernel_rfl) ?_
            rfl
          · rw [dec_f h4]
            conv => lhs; whnf
            refine nextK_of cx ?_
            conv => lhs; whnf
            refine nextK_of cy ?_
            conv => lhs; whnf
            refine iteK_bne (fun h5 => ?_) (fun h5 => ?_)
            · rw [bne_t h5]
              conv => lhs; whnf
              refine nextK_of wk ?_
              conv => lhs; whnf
              refine Eq.trans (b := some (Res.ret (AV.d (D.bool true)), [])) (by kernel_rfl) ?_
              rfl
            · rw [bne_f h5]
              conv => lhs; whnf
              refine iteK_bne (fun h6 => ?_) (fun h6 => ?_)
              · rw [bne_t h6]
                conv => lhs; whnf
                refine nextK_of wk ?_
                conv => lhs; whnf
                refine Eq.trans (b := some (Res.ret (AV.d (D.bool true)), [])) (by kernel_rfl) ?_
                rfl
              · rw [bne_f h6]
                (exfalso; omega)
      · conv => lhs; whnf
        refine nextK_of wk ?_
        conv => lhs; whnf
        refine Eq.trans (b := some (Res.ret (AV.d (D.bool true)), [])) (by kernel_rfl) ?_
        rfl
    · conv => lhs; whnf
      refine nextK_of wk ?_
      conv => lhs; whnf
      refine Eq.trans (b := some (Res.ret (AV.d (D.bool true)), [])) (by kernel_rfl) ?_
      rfl
end Go.Rx08
