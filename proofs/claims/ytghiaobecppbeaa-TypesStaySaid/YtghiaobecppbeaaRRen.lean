/- A part of the proof of the law: what functions of the program come to, walked by Rx, or plain facts on it. -/
import Derived.Test.YtghiaobecppbeaaRLawOf
import Derived.Test.YtghiaobecppbeaaRSpecR
import Derived.Test.YtghiaobecppbeaaRxJc
open Go Go.Rx Go.Proofs Go.Rx08 Go.RxTree
set_option maxRecDepth 1000000
set_option maxHeartbeats 4000000
set_option linter.unusedVariables false
set_option linter.unusedSimpArgs false
namespace Go.Rx08
abbrev exH (s : Nat) (t : T) : Nm × AObj := (.slot s, .cells [.d (.int .i64 t.kind), .d (.int .i64 t.n), .d (.str t.name), .d (.list (cellsL t.kids))])
theorem len1 {n : Nat} (h : n ≤ 1000) : (n + 1) * (56 + 1) ≤ lim := by unfold lim; omega
theorem renL_take {a b : List UInt8} {l : List T} {i : Nat} {x : T} (h : l[i]? = some x) : cellsL (renTs a b (l.take (i + 1))) = cellsL (renTs a b (l.take i)) ++ [(renT a b x).cells] := by
  obtain ⟨h1, e1⟩ := List.getElem?_eq_some_iff.1 h
  have key : ∀ l m : List T, cellsL (renTs a b (l ++ m)) = cellsL (renTs a b l) ++ cellsL (renTs a b m) := fun l => by
    induction l with
    | nil => intro m; rfl
    | cons t r ih => intro m; show _ :: cellsL (renTs a b (r ++ m)) = _; rw [ih m]; rfl
  rw [List.take_add_one, h, key]; rfl
theorem ren29L (j : Nat) (a b : List UInt8) (l : List T) (x0 n0 : Int) (s0 : List UInt8) (hm : l.length ≤ 1000)
    (ih : ∀ x : T, x ∈ l → icall Try.prog cfg j 29 [x.av, .d (.str a), .d (.str b)] [] = some (.ret (renT a b x).av, [])) {lp : LP} (hlp : lp = lpOf Try.prog cfg (icall Try.prog cfg j) Try.f29.ntmps 29 j (([] : Hp).map (·.1))) :
    ∀ (m i : Nat) (z : Int) (es : List (List D)) (lf : Nat) (st : St), (l).length - i = m → i ≤ (l).length → z = (i : Int) → es = cellsL (renTs a b (l.take i)) → m < lf → prune [] [1, 2, 6, 7, 29, 30, 31] st = some ⟨[(1, .d (.str a)), (2, .d (.str b)), (6, .ptr (.slot 6) 0), (7, .ptr (.slot 7) 0), (29, .d (.list (cellsL l))), (30, .d (.int .i64 (cellsL l).length)), (31, .d (.int .i64 z))], [(.slot 6, .cells [.d (.int .i64 0), .d (.int .i64 0), .d (.str []), .nilsl]), (.slot 7, .cells [.d (.int .i64 x0), .d (.int .i64 n0), .d (.str s0), .own (.slot 42) 0 i]), (.slot 42, .arr 24 4 0 es)]⟩ →
      loopK Try.prog cfg (icall Try.prog cfg j) lp Try.f29.ntmps 29 [] (bodyAt Try.f29 5) lf st (exitP [] (some [6, 7])) = some (.exit 0, ⟨[(6, .ptr (.slot 6) 0), (7, .ptr (.slot 7) 0)], [(.slot 6, .cells [.d (.int .i64 0), .d (.int .i64 0), .d (.str []), .nilsl]), (.slot 7, .cells [.d (.int .i64 x0), .d (.int .i64 n0), .d (.str s0), .own (.slot 42) 0 l.length]), (.slot 42, .arr 24 4 0 (cellsL (renTs a b l)))]⟩) := by
  intro m
  induction m with
  | zero =>
    intro i z es lf st hi hle hz hes hlf hp
    obtain ⟨lf, rfl⟩ : ∃ n, lf = n + 1 := ⟨lf - 1, by omega⟩
    refine loop_step hp ?_
    have hend : ¬ z < ((cellsL l).length : Int) := by rw [cellsL_len]; omega
    obtain rfl : i = l.length := by omega
    rw [List.take_length] at hes
    subst hes
    conv => lhs; whnf
    refine iteK_dec_f hend ?_
    conv => lhs; whnf
    refine Eq.trans (b := some (Fx.exit (0 : Nat), St.mk [((6 : Nat), AV.ptr (Nm.slot (6 : Nat)) (0 : Nat)), ((7 : Nat), AV.ptr (Nm.slot (7 : Nat)) (0 : Nat))] [(Nm.slot (6 : Nat), AObj.cells [AV.d (D.int IntKind.i64 (0 : Int)), AV.d (D.int IntKind.i64 (0 : Int)), AV.d (D.str []), AV.nilsl]), (Nm.slot (7 : Nat), AObj.cells [AV.d (D.int IntKind.i64 x0), AV.d (D.int IntKind.i64 n0), AV.d (D.str s0), AV.own (Nm.slot (42 : Nat)) (nat_lit 0) (List.length l)]), (Nm.slot (42 : Nat), AObj.arr (24 : Nat) (4 : Nat) (nat_lit 0) (cellsL (renTs a b l)))])) (by kernel_rfl) ?_
    rfl
  | succ m ihm =>
    intro i z es lf st hi hle hz hes hlf hp
    obtain ⟨lf, rfl⟩ : ∃ n, lf = n + 1 := ⟨lf - 1, by omega⟩
    refine loop_step hp ?_
    have hend : z < ((cellsL l).length : Int) := by rw [cellsL_len]; omega
    have hx : l[i]? = some l[i] := List.getElem?_eq_getElem (by omega)
    generalize l[i] = x at hx
    have hc := ih x (List.mem_of_getElem? hx)
    have hmx : l.length ≤ maxLen := by unfold maxLen; omega
    have hle : es.length = i := by rw [hes, cellsL_len, renL_map, List.length_map, List.length_take]; omega
    have hnx : es.take i ++ [[.int .i64 (renT a b x).kind, .int .i64 (renT a b x).n, .str (renT a b x).name, .list (cellsL (renT a b x).kids)]] = cellsL (renTs a b (l.take (i + 1))) := by rw [renL_take hx, ← hes, List.take_of_length_le (by omega), ← cells_eq]
    conv => lhs; whnf
    refine iteK_dec_t hend ?_
    conv => lhs; whnf
    refine nextK_of (aop_ix rfl rfl rfl rfl (ixL_at' hz (cellsL_get _ _ _ hx) rfl)) ?_
    conv => lhs; whnf
    refine iteO_t (by kernel_rfl) ?_
    conv => lhs; whnf
    refine nextK_of hc ?_
    conv => lhs; whnf
    refine nextK_of (aop_app rfl rfl rfl rfl rfl rfl rfl rfl rfl rfl rfl rfl (len1 (by omega))) ?_
    conv => lhs; whnf
    refine iteO_t (by kernel_rfl) ?_
    conv => lhs; whnf
    refine Eq.trans (ihm (i + 1) _ _ lf _ (by omega) (by omega) (wrap_up hz (by omega)) hnx (by omega) rfl) ?_
    rfl
abbrev st29 (a b : List UInt8) (l : List T) (x0 n0 : Int) (s0 : List UInt8) : St := ⟨[(1, .d (.str a)), (2, .d (.str b)), (6, .ptr (.slot 6) 0), (7, .ptr (.slot 7) 0), (29, .d (.list (cellsL l))), (30, .d (.int .i64 (cellsL l).length)), (31, .d (.int .i64 0))], [(.slot 6, .cells [.d (.int .i64 0), .d (.int .i64 0), .d (.str []), .nilsl]), (.slot 7, .cells [.d (.int .i64 x0), .d (.int .i64 n0), .d (.str s0), .nilsl])]⟩
theorem ren29N (j : Nat) (a b : List UInt8) (x0 n0 : Int) (s0 : List UInt8) {lp : LP} (lf : Nat) (hlf : 0 < lf) (st : St) (hp : prune [] [1, 2, 6, 7, 29, 30, 31] st = some (st29 a b [] x0 n0 s0)) :
    loopK Try.prog cfg (icall Try.prog cfg j) lp Try.f29.ntmps 29 [] (bodyAt Try.f29 5) lf st (exitP [] (some [6, 7])) = some (.exit 0, ⟨[(6, .ptr (.slot 6) 0), (7, .ptr (.slot 7) 0)], [(.slot 6, .cells [.d (.int .i64 0), .d (.int .i64 0), .d (.str []), .nilsl]), (.slot 7, .cells [.d (.int .i64 x0), .d (.int .i64 n0), .d (.str s0), .nilsl])]⟩) := by
  obtain ⟨lf, rfl⟩ : ∃ n, lf = n + 1 := ⟨lf - 1, by omega⟩
  refine loop_step hp ?_
  conv => lhs; whnf
  refine Eq.trans (b := some (Fx.exit (0 : Nat), St.mk [((6 : Nat), AV.ptr (Nm.slot (6 : Nat)) (0 : Nat)), ((7 : Nat), AV.ptr (Nm.slot (7 : Nat)) (0 : Nat))] [(Nm.slot (6 : Nat), AObj.cells [AV.d (D.int IntKind.i64 (0 : Int)), AV.d (D.int IntKind.i64 (0 : Int)), AV.d (D.str []), AV.nilsl]), (Nm.slot (7 : Nat), AObj.cells [AV.d (D.int IntKind.i64 x0), AV.d (D.int IntKind.i64 n0), AV.d (D.str s0), AV.nilsl])])) (by kernel_rfl) ?_
  rfl
theorem ren29Z (j : Nat) (a b : List UInt8) (l : List T) (x0 n0 : Int) (s0 : List UInt8) {lp : LP} (hlp : lp = lpOf Try.prog cfg (icall Try.prog cfg j) Try.f29.ntmps 29 j (([] : Hp).map (·.1))) (hm : l.length ≤ 1000) (hn : l.length ≠ 0) (ih : ∀ x : T, x ∈ l → icall Try.prog cfg j 29 [x.av, .d (.str a), .d (.str b)] [] = some (.ret (renT a b x).av, []))
    (lf : Nat) (hlf : l.length < lf) (st : St) (hp : prune [] [1, 2, 6, 7, 29, 30, 31] st = some (st29 a b l x0 n0 s0)) :
    loopK Try.prog cfg (icall Try.prog cfg j) lp Try.f29.ntmps 29 [] (bodyAt Try.f29 5) lf st (exitP [] (some [6, 7])) = some (.exit 0, ⟨[(6, .ptr (.slot 6) 0), (7, .ptr (.slot 7) 0)], [(.slot 6, .cells [.d (.int .i64 0), .d (.int .i64 0), .d (.str []), .nilsl]), (.slot 7, .cells [.d (.int .i64 x0), .d (.int .i64 n0), .d (.str s0), .own (.slot 42) 0 l.length]), (.slot 42, .arr 24 4 0 (cellsL (renTs a b l)))]⟩) := by
  obtain ⟨lf, rfl⟩ : ∃ n, lf = n + 1 := ⟨lf - 1, by omega⟩
  refine loop_step hp ?_
  have hend : (0 : Int) < ((cellsL l).length : Int) := by rw [cellsL_len]; omega
  have hx : l[0]? = some l[0] := List.getElem?_eq_getElem (by omega)
  generalize l[0] = x at hx
  have hc := ih x (List.mem_of_getElem? hx)
  have hnx : [[.int .i64 (renT a b x).kind, .int .i64 (renT a b x).n, .str (renT a b x).name, .list (cellsL (renT a b x).kids)]] = cellsL (renTs a b (l.take 1)) := by rw [renL_take hx, ← cells_eq]; rfl
  conv => lhs; whnf
  refine iteK_dec_t hend ?_
  conv => lhs; whnf
  refine nextK_of (aop_ix rfl rfl rfl rfl (ixL_at' (n := 0) rfl (cellsL_get _ _ _ hx) rfl)) ?_
  conv => lhs; whnf
  refine iteO_t (by kernel_rfl) ?_
  conv => lhs; whnf
  refine nextK_of hc ?_
  conv => lhs; whnf
  refine iteO_t (by kernel_rfl) ?_
  conv => lhs; whnf
  refine Eq.trans (ren29L j a b l x0 n0 s0 hm ih hlp (l.length - 1) 1 _ _ lf _ (by omega) (by omega) (wrap_up (n := 0) rfl (by unfold maxLen; omega)) hnx (by omega) rfl) ?_
  rfl
theorem ren29 (a b : List UInt8) : ∀ (m : Nat) (t : T), t.wt ≤ m → t.Few → ∀ k, t.wt < k → icall Try.prog cfg k 29 [t.av, .d (.str a), .d (.str b)] [] = some (.ret (renT a b t).av, []) := by
  intro m
  induction m with
  | zero => intro t h; rw [T.wt_eq] at h; omega
  | succ m ihm =>
  intro t hm hf k hk
  obtain ⟨x, n, s, l⟩ := t
  obtain ⟨f1, f2, f3⟩ := hf
  rw [T.wt] at hm hk
  have hwl := wtL_len l
  obtain ⟨k, rfl⟩ : ∃ j, k = j + 1 := ⟨k - 1, by omega⟩
  have ih := fun y hy => ihm y (by have := wtL_mem l y hy; omega) (FewL_mem f3 hy) k (by have := wtL_mem l y hy; omega)
  rw [renT]
  cases l with
  | nil =>
    show icall Try.prog cfg _ _ [.agg [.d (.int .i64 x), .d (.int .i64 n), .d (.str s), .d (.list (cellsL []))], _, _] [] = _
    rw [icall_body rfl Try.func29]
    obtain ⟨lp, hlp⟩ : ∃ lp, lp = lpOf Try.prog cfg (icall Try.prog cfg k) Try.f29.ntmps 29 k (([] : Hp).map (·.1)) := ⟨_, rfl⟩
    rw [← hlp]
    conv => lhs; whnf
    refine iteK_beq (fun h1 => ?_) (fun h1 => ?_)
    · obtain rfl : x = (2 : Int) := h1
      conv => lhs; whnf
      refine iteK_beq (fun h2 => ?_) (fun h2 => ?_)
      · rw [beq_t h2]
        conv => lhs; whnf
        refine nextK_of (loop_at hlp (ren29N k a b _ _ _ k (by omega) _ rfl)) ?_
        conv => lhs; whnf
        refine Eq.trans (b := some (Res.ret (AV.agg [AV.d (D.int IntKind.i64 (2 : Int)), AV.d (D.int IntKind.i64 n), AV.d (D.str b), AV.d (D.list [])]), [])) (by kernel_rfl) ?_
        (rw [if_pos ⟨rfl, by assumption⟩]; rfl)
      · rw [beq_f h2]
        conv => lhs; whnf
        refine nextK_of (loop_at hlp (ren29N k a b _ _ _ k (by omega) _ rfl)) ?_
        conv => lhs; whnf
        refine Eq.trans (b := some (Res.ret (AV.agg [AV.d (D.int IntKind.i64 (2 : Int)), AV.d (D.int IntKind.i64 n), AV.d (D.str s), AV.d (D.list [])]), [])) (by kernel_rfl) ?_
        (rw [if_neg (fun h => absurd h.2 (by assumption))]; rfl)
    · rw [beq_f h1]
      conv => lhs; whnf
      refine nextK_of (loop_at hlp (ren29N k a b _ _ _ k (by omega) _ rfl)) ?_
      conv => lhs; whnf
      refine Eq.trans (b := some (Res.ret (AV.agg [AV.d (D.int IntKind.i64 x), AV.d (D.int IntKind.i64 n), AV.d (D.str s), AV.d (D.list [])]), [])) (by kernel_rfl) ?_
      (rw [if_neg (fun h => absurd h.1 (by assumption))]; rfl)
  | cons y r =>
    show icall Try.prog cfg _ _ [.agg [.d (.int .i64 x), .d (.int .i64 n), .d (.str s), .d (.list (cellsL (y :: r)))], _, _] [] = _
    generalize hl : y :: r = l at *
    have hn : l.length ≠ 0 := by rw [← hl]; simp
    have htk : List.take l.length (cellsL (renTs a b l)) = cellsL (renTs a b l) := List.take_of_length_le (by rw [cellsL_len, renL_map, List.length_map]; omega)
    rw [icall_body rfl Try.func29]
    obtain ⟨lp, hlp⟩ : ∃ lp, lp = lpOf Try.prog cfg (icall Try.prog cfg k) Try.f29.ntmps 29 k (([] : Hp).map (·.1)) := ⟨_, rfl⟩
    rw [← hlp]
    conv => lhs; whnf
    refine iteK_beq (fun h1 => ?_) (fun h1 => ?_)
    · obtain rfl : x = (2 : Int) := h1
      conv => lhs; whnf
      refine iteK_beq (fun h2 => ?_) (fun h2 => ?_)
      · rw [beq_t h2]
        conv => lhs; whnf
        refine nextK_of (loop_at hlp (ren29Z k a b l _ _ _ hlp f2 hn ih k (by omega) _ rfl)) ?_
        conv => lhs; whnf
        refine Eq.trans (b := some (Res.ret (AV.agg [AV.d (D.int IntKind.i64 (2 : Int)), AV.d (D.int IntKind.i64 n), AV.d (D.str b), AV.d (D.list (List.take (List.length l) (cellsL (renTs a b l))))]), [])) (by kernel_rfl) ?_
        (rw [htk, if_pos ⟨rfl, by assumption⟩]; rfl)
      · rw [beq_f h2]
        conv => lhs; whnf
        refine nextK_of (loop_at hlp (ren29Z k a b l _ _ _ hlp f2 hn ih k (by omega) _ rfl)) ?_
        conv => lhs; whnf
        refine Eq.trans (b := some (Res.ret (AV.agg [AV.d (D.int IntKind.i64 (2 : Int)), AV.d (D.int IntKind.i64 n), AV.d (D.str s), AV.d (D.list (List.take (List.length l) (cellsL (renTs a b l))))]), [])) (by kernel_rfl) ?_
        (rw [htk, if_neg (fun h => absurd h.2 (by assumption))]; rfl)
    · rw [beq_f h1]
      conv => lhs; whnf
      refine nextK_of (loop_at hlp (ren29Z k a b l _ _ _ hlp f2 hn ih k (by omega) _ rfl)) ?_
      conv => lhs; whnf
      refine Eq.trans (b := some (Res.ret (AV.agg [AV.d (D.int IntKind.i64 x), AV.d (D.int IntKind.i64 n), AV.d (D.str s), AV.d (D.list (List.take (List.length l) (cellsL (renTs a b l))))]), [])) (by kernel_rfl) ?_
      (rw [htk, if_neg (fun h => absurd h.1 (by assumption))]; rfl)
theorem asks37L (j : Nat) (a : List UInt8) (t : T) (hm : t.kids.length ≤ maxLen)
    (ih : ∀ x : T, x ∈ t.kids → icall Try.prog cfg j 37 [x.av, .d (.str a)] [] = some (.ret (.d (.bool (asksT a x))), [])) {lp : LP} (hlp : lp = lpOf Try.prog cfg (icall Try.prog cfg j) Try.f37.ntmps 37 j (([] : Hp).map (·.1))) :
    ∀ (m i : Nat) (z : Int)  (lf : Nat) (st : St), (t.kids).length - i = m → i ≤ (t.kids).length → z = (i : Int) → m < lf → prune [] [1, 2, 5] st = some ⟨[(1, .d (.str a)), (2, .ptr (.slot 2) 0), (5, .d (.int .i64 z))], [exH 2 t]⟩ →
      loopK Try.prog cfg (icall Try.prog cfg j) lp Try.f37.ntmps 37 [] (bodyAt Try.f37 4) lf st (exitP [] (some [4])) = iteK (asksL a (t.kids.drop i)) (some (.ret, ⟨[(4, .d (.bool true))], []⟩)) (some (.exit 0, ⟨[(4, .undef)], []⟩)) := by
  intro m
  induction m with
  | zero =>
    intro i z  lf st hi hle hz  hlf hp
    obtain ⟨lf, rfl⟩ : ∃ n, lf = n + 1 := ⟨lf - 1, by omega⟩
    refine loop_step hp ?_
    have hend : ¬ z < ((cellsL t.kids).length : Int) := by rw [cellsL_len]; omega
    rw [List.drop_eq_nil_of_le (by omega)]
    conv => lhs; whnf
    refine iteK_dec_f hend ?_
    conv => lhs; whnf
    refine Eq.trans (b := some (Fx.exit (0 : Nat), St.mk [((4 : Nat), AV.undef)] [])) (by kernel_rfl) ?_
    rfl
  | succ m ihm =>
    intro i z  lf st hi hle hz  hlf hp
    obtain ⟨lf, rfl⟩ : ∃ n, lf = n + 1 := ⟨lf - 1, by omega⟩
    refine loop_step hp ?_
    have hend : z < ((cellsL t.kids).length : Int) := by rw [cellsL_len]; omega
    have hx : t.kids[i]? = some t.kids[i] := List.getElem?_eq_getElem (by omega)
    generalize t.kids[i] = x at hx
    have hc := ih x (List.mem_of_getElem? hx)
    rw [asksL_drop hx]
    conv => lhs; whnf
    refine iteK_dec_t hend ?_
    conv => lhs; whnf
    refine nextK_of (aop_ix rfl rfl rfl rfl (ixL_at' hz (cellsL_get _ _ _ hx) rfl)) ?_
    conv => lhs; whnf
    refine nextK_b hc (fun h1 => ?_) (fun h1 => ?_)
    · conv => lhs; whnf
      refine Eq.trans (b := some (Fx.ret, St.mk [((4 : Nat), AV.d (D.bool true))] [])) (by kernel_rfl) ?_
      (rw [h1]; rfl)
    · conv => lhs; whnf
      refine Eq.trans (ihm (i + 1) _ lf _ (by omega) (by omega) (wrap_up hz (by omega)) (by omega) rfl) ?_
      (rw [h1]; rfl)
theorem asks37 (a : List UInt8) : ∀ (m : Nat) (t : T), t.wt ≤ m → t.Ok → ∀ k, t.wt < k → icall Try.prog cfg k 37 [t.av, .d (.str a)] [] = some (.ret (.d (.bool (asksT a t))), []) := by
  intro m
  induction m with
  | zero => intro t h; rw [T.wt_eq] at h; omega
  | succ m ihm =>
  intro t hm ho k hk
  obtain ⟨x, n, s, l⟩ := t
  obtain ⟨o1, o2, o3, o4, o5⟩ := ho
  rw [T.wt] at hm hk
  have hwl := wtL_len l
  obtain ⟨k, rfl⟩ : ∃ j, k = j + 1 := ⟨k - 1, by omega⟩
  have ih := fun y hy => ihm y (by have := wtL_mem l y hy; omega) (OkL_mem o5 hy) k (by have := wtL_mem l y hy; omega)
  show icall Try.prog cfg _ _ [.agg [.d (.int .i64 x), .d (.int .i64 n), .d (.str s), .d (.list (cellsL l))], _] [] = _
  rw [asksT]
  rw [icall_body rfl Try.func37]
  obtain ⟨lp, hlp⟩ : ∃ lp, lp = lpOf Try.prog cfg (icall Try.prog cfg k) Try.f37.ntmps 37 k (([] : Hp).map (·.1)) := ⟨_, rfl⟩
  rw [← hlp]
  conv => lhs; whnf
  refine iteK_beq (fun h1 => ?_) (fun h1 => ?_)
  · obtain rfl : x = (2 : Int) := h1
    conv => lhs; whnf
    refine iteK_beq (fun h2 => ?_) (fun h2 => ?_)
    · rw [beq_t h2]
      conv => lhs; whnf
      refine Eq.trans (b := some (Res.ret (AV.d (D.bool true)), [])) (by kernel_rfl) ?_
      exact ret_b (by simp)
    · rw [beq_f h2]
      conv => lhs; whnf
      refine nextK_ite (loop_at hlp (asks37L k a (.mk _ n s l) o4 ih hlp l.length 0 0 k _ rfl (Nat.zero_le _) rfl (by omega) rfl)) ?_
      conv => lhs; whnf
      refine iteK_of (fun h3 => ?_) (fun h3 => ?_)
      · conv => lhs; whnf
        refine Eq.trans (b := some (Res.ret (AV.d (D.bool true)), [])) (by kernel_rfl) ?_
        exact ret_b (by rw [show asksL a l = true by assumption]; simp)
      · conv => lhs; whnf
        refine Eq.trans (b := some (Res.ret (AV.d (D.bool false)), [])) (by kernel_rfl) ?_
        exact ret_b (by rw [show asksL a l = false by assumption]; simp)
  · rw [beq_f h1]
    conv => lhs; whnf
    refine nextK_ite (loop_at hlp (asks37L k a (.mk _ n s l) o4 ih hlp l.length 0 0 k _ rfl (Nat.zero_le _) rfl (by omega) rfl)) ?_
    conv => lhs; whnf
    refine iteK_of (fun h2 => ?_) (fun h2 => ?_)
    · conv => lhs; whnf
      refine Eq.trans (b := some (Res.ret (AV.d (D.bool true)), [])) (by kernel_rfl) ?_
      exact ret_b (by rw [show asksL a l = true by assumption]; simp)
    · conv => lhs; whnf
      refine Eq.trans (b := some (Res.ret (AV.d (D.bool false)), [])) (by kernel_rfl) ?_
      exact ret_b (by rw [show asksL a l = false by assumption]; simp)
theorem asks21 (a : List UInt8) (t : T) (ho : t.Ok) (k : Nat) (hk : t.wt + 1 < k) : icall Try.prog cfg k 21 [t.av, .d (.str a)] [] = some (.ret (.d (.bool (asksT a t))), []) := by
  obtain ⟨k, rfl⟩ : ∃ j, k = j + 1 := ⟨k - 1, by omega⟩
  show icall Try.prog cfg _ _ [.agg [.d (.int .i64 t.kind), .d (.int .i64 t.n), .d (.str t.name), .d (.list (cellsL t.kids))], _] [] = _
  rw [icall_body rfl Try.func21]
  obtain ⟨lp, hlp⟩ : ∃ lp, lp = lpOf Try.prog cfg (icall Try.prog cfg k) Try.f21.ntmps 21 k (([] : Hp).map (·.1)) := ⟨_, rfl⟩
  rw [← hlp]
  conv => lhs; whnf
  refine nextK_b (asks37 a t.wt t (Nat.le_refl _) ho k (by omega)) (fun h1 => ?_) (fun h1 => ?_)
  · conv => lhs; whnf
    refine Eq.trans (b := some (Res.ret (AV.d (D.bool true)), [])) (by kernel_rfl) ?_
    exact ret_b (Eq.symm (by assumption))
  · conv => lhs; whnf
    refine Eq.trans (b := some (Res.ret (AV.d (D.bool false)), [])) (by kernel_rfl) ?_
    exact ret_b (Eq.symm (by assumption))
theorem same15L (j : Nat) (t u : T) (hm : t.kids.length ≤ maxLen) (hlen : t.kids.length = u.kids.length)
    (ih : ∀ x y : T, x ∈ t.kids → y ∈ u.kids → icall Try.prog cfg j 15 [x.av, y.av] [] = some (.ret (.d (.bool (sameT x y))), [])) {lp : LP} (hlp : lp = lpOf Try.prog cfg (icall Try.prog cfg j) Try.f15.ntmps 15 j (([] : Hp).map (·.1))) :
    ∀ (m i : Nat) (z : Int)  (lf : Nat) (st : St), (t.kids).length - i = m → i ≤ (t.kids).length → z = (i : Int) → m < lf → prune [] [2, 3, 5] st = some ⟨[(2, .ptr (.slot 2) 0), (3, .ptr (.slot 3) 0), (5, .d (.int .i64 z))], [exH 2 t, exH 3 u]⟩ →
      loopK Try.prog cfg (icall Try.prog cfg j) lp Try.f15.ntmps 15 [] (bodyAt Try.f15 4) lf st (exitP [] (some [4])) = iteK (sameL (t.kids.drop i) (u.kids.drop i)) (some (.exit 0, ⟨[(4, .undef)], []⟩)) (some (.ret, ⟨[(4, .d (.bool false))], []⟩)) := by
  intro m
  induction m with
  | zero =>
    intro i z  lf st hi hle hz  hlf hp
    obtain ⟨lf, rfl⟩ : ∃ n, lf = n + 1 := ⟨lf - 1, by omega⟩
    refine loop_step hp ?_
    have hend : ¬ z < ((cellsL t.kids).length : Int) := by rw [cellsL_len]; omega
    rw [List.drop_eq_nil_of_le (by omega), List.drop_eq_nil_of_le (by omega)]
    conv => lhs; whnf
    refine iteK_dec_f hend ?_
    conv => lhs; whnf
    refine Eq.trans (b := some (Fx.exit (0 : Nat), St.mk [((4 : Nat), AV.undef)] [])) (by kernel_rfl) ?_
    rfl
  | succ m ihm =>
    intro i z  lf st hi hle hz  hlf hp
    obtain ⟨lf, rfl⟩ : ∃ n, lf = n + 1 := ⟨lf - 1, by omega⟩
    refine loop_step hp ?_
    have hend : z < ((cellsL t.kids).length : Int) := by rw [cellsL_len]; omega
    have hx : t.kids[i]? = some t.kids[i] := List.getElem?_eq_getElem (by omega)
    generalize t.kids[i] = x at hx
    have hy : u.kids[i]? = some u.kids[i] := List.getElem?_eq_getElem (by omega)
    generalize u.kids[i] = y at hy
    have hc := ih x y (List.mem_of_getElem? hx) (List.mem_of_getElem? hy)
    rw [sameL_drop hx hy]
    conv => lhs; whnf
    refine iteK_dec_t hend ?_
    conv => lhs; whnf
    refine iteO_t (by kernel_rfl) ?_
    conv => lhs; whnf
    refine nextK_of (aop_ix rfl rfl rfl rfl (ixL_at' hz (cellsL_get _ _ _ hx) rfl)) ?_
    conv => lhs; whnf
    refine nextK_of (aop_ix rfl rfl rfl rfl (ixL_at' hz (cellsL_get _ _ _ hy) rfl)) ?_
    conv => lhs; whnf
    refine nextK_b hc (fun h1 => ?_) (fun h1 => ?_)
    · conv => lhs; whnf
      refine iteO_t (by kernel_rfl) ?_
      conv => lhs; whnf
      refine Eq.trans (ihm (i + 1) _ lf _ (by omega) (by omega) (wrap_up hz (by omega)) (by omega) rfl) ?_
      (rw [h1]; rfl)
    · conv => lhs; whnf
      refine iteO_t (by kernel_rfl) ?_
      conv => lhs; whnf
      refine Eq.trans (b := some (Fx.ret, St.mk [((4 : Nat), AV.d (D.bool false))] [])) (by kernel_rfl) ?_
      (rw [h1]; rfl)
theorem same15 : ∀ (m : Nat) (t u : T), t.wt ≤ m → t.Ok → ∀ k, t.wt < k → icall Try.prog cfg k 15 [t.av, u.av] [] = some (.ret (.d (.bool (sameT t u))), []) := by
  intro m
  induction m with
  | zero => intro t u h; rw [T.wt_eq] at h; omega
  | succ m ihm =>
  intro t u hm ho k hk
  obtain ⟨o1, o2, o3, o4, o5⟩ := (T.ok_eq t).1 ho
  rw [T.wt_eq] at hm hk
  have hwl := wtL_len t.kids
  obtain ⟨k, rfl⟩ : ∃ j, k = j + 1 := ⟨k - 1, by omega⟩
  have ih : ∀ x y : T, x ∈ t.kids → y ∈ u.kids → icall Try.prog cfg k 15 [x.av, y.av] [] = some (.ret (.d (.bool (sameT x y))), []) := fun x y hx _ => ihm x y (by have := wtL_mem t.kids x hx; omega) (OkL_mem o5 hx) k (by have := wtL_mem t.kids x hx; omega)
  show icall Try.prog cfg _ _ [.agg [.d (.int .i64 t.kind), .d (.int .i64 t.n), .d (.str t.name), .d (.list (cellsL t.kids))], .agg [.d (.int .i64 u.kind), .d (.int .i64 u.n), .d (.str u.name), .d (.list (cellsL u.kids))]] [] = _
  rw [sameT_eq]
  have c1 := cellsL_len t.kids
  have c2 := cellsL_len u.kids
  rw [icall_body rfl Try.func15]
  obtain ⟨lp, hlp⟩ : ∃ lp, lp = lpOf Try.prog cfg (icall Try.prog cfg k) Try.f15.ntmps 15 k (([] : Hp).map (·.1)) := ⟨_, rfl⟩
  rw [← hlp]
  conv => lhs; whnf
  refine iteK_bne (fun h1 => ?_) (fun h1 => ?_)
  · rw [bne_t h1]
    conv => lhs; whnf
    refine Eq.trans (b := some (Res.ret (AV.d (D.bool false)), [])) (by kernel_rfl) ?_
    exact ret_b (by rw [beq_f (show t.kind ≠ u.kind by assumption)]; rfl)
  · rw [bne_f h1]
    conv => lhs; whnf
    refine iteK_bne (fun h2 => ?_) (fun h2 => ?_)
    · rw [bne_t h2]
      conv => lhs; whnf
      refine Eq.trans (b := some (Res.ret (AV.d (D.bool false)), [])) (by kernel_rfl) ?_
      exact ret_b (by rw [beq_f (show t.n ≠ u.n by assumption)]; simp)
    · rw [bne_f h2]
      conv => lhs; whnf
      refine iteK_not ?_
      conv => lhs; whnf
      refine iteK_beq (fun h3 => ?_) (fun h3 => ?_)
      · rw [beq_t h3]
        conv => lhs; whnf
        refine iteK_bne (fun h4 => ?_) (fun h4 => ?_)
        · rw [bne_t h4]
          conv => lhs; whnf
          refine Eq.trans (b := some (Res.ret (AV.d (D.bool false)), [])) (by kernel_rfl) ?_
          exact ret_b (by rw [sameL_len (a := t.kids) (b := u.kids) (by omega)]; simp)
        · rw [bne_f h4]
          conv => lhs; whnf
          refine nextK_ite (loop_at hlp (same15L k t u o4 (by omega) ih hlp t.kids.length 0 0 k _ rfl (Nat.zero_le _) rfl (by omega) rfl)) ?_
          conv => lhs; whnf
          refine iteK_of (fun h5 => ?_) (fun h5 => ?_)
          · conv => lhs; whnf
            refine Eq.trans (b := some (Res.ret (AV.d (D.bool true)), [])) (by kernel_rfl) ?_
            exact ret_b (by rw [show sameL t.kids u.kids = true by assumption]; simp [*])
          · conv => lhs; whnf
            refine Eq.trans (b := some (Res.ret (AV.d (D.bool false)), [])) (by kernel_rfl) ?_
            exact ret_b (by rw [show sameL t.kids u.kids = false by assumption]; simp)
      · rw [beq_f h3]
        conv => lhs; whnf
        refine Eq.trans (b := some (Res.ret (AV.d (D.bool false)), [])) (by kernel_rfl) ?_
        exact ret_b (by simp)
end Go.Rx08
