/- A part of the proof of the law: what functions of the program come to, walked by Rx, or plain facts on it. -/
import Derived.Test.YtghiaobecppbeaaRNames2
import Derived.Test.YtghiaobecppbeaaRLawRound
open Go Go.Rx Go.Proofs Go.Rx08 Go.RxTree
set_option maxRecDepth 1000000
set_option maxHeartbeats 4000000
set_option linter.unusedVariables false
set_option linter.unusedSimpArgs false
namespace Go.Rx08
/-- A row begins with open contents. -/
theorem aop_app0 {P : Program} {dst : Nat} {ρ : Operand → AV} {H : Hp} {c : Call} {s x : Operand} {t u e e' : TypeId} {i : TypeInfo} {z : Value} {ds : List (List D)} (hcal : c.callee = .builtin .append) (hargs : c.args.toList = [s, x]) (hty : c.argTypes.toList = [t, u])
    (ht : P.underlying t = some (.slice e)) (hu : P.underlying u = some (.slice e')) (hi : P.info? e = some i) (hz : i.zero = some z) (hsz : z.cells.size = i.size) (hx : srcOf H (ρ x) = some ds) (hall : ds.all (fun y => y.length == i.size) = true)
    (hs : ρ s = .nilsl) (ho : (H.get (.slot dst)).isNone = true) (hne : ds.length ≠ 0) (hl : ds.length * (i.bytes + 1) ≤ lim) :
    aop P dst ρ H (.call c) = some (.own (.slot dst) 0 ds.length, (.slot dst, .arr e i.size 0 ds) :: H) := by
  simp only [aop, hcal, hargs, hty, aAppend, ht, hu, hi, hz, hsz, hx, hall, hs, ho, Option.bind_some, if_true, if_neg hne, if_pos hl, and_self, true_and, and_true]
theorem sL_all (l : List (List UInt8)) : (sL l).all (fun y => y.length == 1) = true := by simp [sL]
theorem ren30L (j : Nat) (a b : List UInt8) (l : List T) (x0 n0 : Int) (s0 : List UInt8) (hm : l.length ≤ 1000)
    (ih : ∀ x : T, x ∈ l → icall Try.prog cfg j 30 [x.av, .d (.str a), .d (.str b)] [] = some (.ret (renT a b x).av, [])) {lp : LP} (hlp : lp = lpOf Try.prog cfg (icall Try.prog cfg j) Try.f30.ntmps 30 j (([] : Hp).map (·.1))) :
    ∀ (m i : Nat) (z : Int) (es : List (List D)) (lf : Nat) (st : St), (l).length - i = m → i ≤ (l).length → z = (i : Int) → es = cellsL (renTs a b (l.take i)) → m < lf → prune [] [1, 2, 3, 6, 7, 8] st = some ⟨[(1, .d (.str a)), (2, .d (.str b)), (3, .ptr (.slot 3) 0), (6, .ptr (.slot 6) 0), (7, .ptr (.slot 7) 0), (8, .d (.int .i64 z))], [(.slot 3, .cells [.d (.int .i64 x0), .d (.int .i64 n0), .d (.str s0), .d (.list (cellsL l))]), (.slot 6, .cells [.d (.int .i64 0), .d (.int .i64 0), .d (.str []), .nilsl]), (.slot 7, .cells [.d (.int .i64 x0), .d (.int .i64 n0), .d (.str s0), .own (.slot 45) 0 i]), (.slot 45, .arr 24 4 0 es)]⟩ →
      loopK Try.prog cfg (icall Try.prog cfg j) lp Try.f30.ntmps 30 [] (bodyAt Try.f30 5) lf st (exitP [] (some [6, 7])) = some (.exit 0, ⟨[(6, .ptr (.slot 6) 0), (7, .ptr (.slot 7) 0)], [(.slot 6, .cells [.d (.int .i64 0), .d (.int .i64 0), .d (.str []), .nilsl]), (.slot 7, .cells [.d (.int .i64 x0), .d (.int .i64 n0), .d (.str s0), .own (.slot 45) 0 l.length]), (.slot 45, .arr 24 4 0 (cellsL (renTs a b l)))]⟩) := by
  intro m
  induction m with
  | zero =>
    intro i z es lf st hi hle hz hes hlf hp
    obtain ⟨lf, rfl⟩ : ∃ n, lf = n + 1 := ⟨lf - 1, by omega⟩
    refine loop_step hp ?_
    have hend : ¬ z < ((cellsL l).length : Int) := by rw [cellsL_len]; omega
    obtain rfl : i = l.length := by omega
    rw [List.take_length] at hes
    subst hes
    conv => lhs; whnf
    refine iteK_dec_f hend ?_
    conv => lhs; whnf
    refine Eq.trans (b := some (Fx.exit (0 : Nat), St.mk [((6 : Nat), AV.ptr (Nm.slot (6 : Nat)) (0 : Nat)), ((7 : Nat), AV.ptr (Nm.slot (7 : Nat)) (0 : Nat))] [(Nm.slot (6 : Nat), AObj.cells [AV.d (D.int IntKind.i64 (0 : Int)), AV.d (D.int IntKind.i64 (0 : Int)), AV.d (D.str []), AV.nilsl]), (Nm.slot (7 : Nat), AObj.cells [AV.d (D.int IntKind.i64 x0), AV.d (D.int IntKind.i64 n0), AV.d (D.str s0), AV.own (Nm.slot (45 : Nat)) (nat_lit 0) (List.length l)]), (Nm.slot (45 : Nat), AObj.arr (24 : Nat) (4 : Nat) (nat_lit 0) (cellsL (renTs a b l)))])) (by kernel_rfl) ?_
    rfl
  | succ m ihm =>
    intro i z es lf st hi hle hz hes hlf hp
    obtain ⟨lf, rfl⟩ : ∃ n, lf = n + 1 := ⟨lf - 1, by omega⟩
    refine loop_step hp ?_
    have hend : z < ((cellsL l).length : Int) := by rw [cellsL_len]; omega
    have hx : l[i]? = some l[i] := List.getElem?_eq_getElem (by omega)
    generalize l[i] = x at hx
    have hc := ih x (List.mem_of_getElem? hx)
    have hmx : l.length ≤ maxLen := by unfold maxLen; omega
    have hle : es.length = i := by rw [hes, cellsL_len, renL_map, List.length_map, List.length_take]; omega
    have hnx : es.take i ++ [[.int .i64 (renT a b x).kind, .int .i64 (renT a b x).n, .str (renT a b x).name, .list (cellsL (renT a b x).kids)]] = cellsL (renTs a b (l.take (i + 1))) := by rw [renL_take hx, ← hes, List.take_of_length_le (by omega), ← cells_eq]
    conv => lhs; whnf
    refine iteK_dec_t hend ?_
    conv => lhs; whnf
    refine iteO_t (by kernel_rfl) ?_
    conv => lhs; whnf
    refine nextK_of (aop_ix rfl rfl rfl rfl (ixL_at' hz (cellsL_get _ _ _ hx) rfl)) ?_
    conv => lhs; whnf
    refine nextK_of hc ?_
    conv => lhs; whnf
    refine nextK_of (aop_app rfl rfl rfl rfl rfl rfl rfl rfl rfl rfl rfl rfl (len1 (by omega))) ?_
    conv => lhs; whnf
    refine iteO_t (by kernel_rfl) ?_
    conv => lhs; whnf
    refine Eq.trans (ihm (i + 1) _ _ lf _ (by omega) (by omega) (wrap_up hz (by omega)) hnx (by omega) rfl) ?_
    rfl
abbrev st30 (a b : List UInt8) (l : List T) (x0 n0 : Int) (s0 : List UInt8) : St := ⟨[(1, .d (.str a)), (2, .d (.str b)), (3, .ptr (.slot 3) 0), (6, .ptr (.slot 6) 0), (7, .ptr (.slot 7) 0), (8, .d (.int .i64 0))], [(.slot 3, .cells [.d (.int .i64 x0), .d (.int .i64 n0), .d (.str s0), .d (.list (cellsL l))]), (.slot 6, .cells [.d (.int .i64 0), .d (.int .i64 0), .d (.str []), .nilsl]), (.slot 7, .cells [.d (.int .i64 x0), .d (.int .i64 n0), .d (.str s0), .nilsl])]⟩
theorem ren30N (j : Nat) (a b : List UInt8) (x0 n0 : Int) (s0 : List UInt8) {lp : LP} (lf : Nat) (hlf : 0 < lf) (st : St) (hp : prune [] [1, 2, 3, 6, 7, 8] st = some (st30 a b [] x0 n0 s0)) :
    loopK Try.prog cfg (icall Try.prog cfg j) lp Try.f30.ntmps 30 [] (bodyAt Try.f30 5) lf st (exitP [] (some [6, 7])) = some (.exit 0, ⟨[(6, .ptr (.slot 6) 0), (7, .ptr (.slot 7) 0)], [(.slot 6, .cells [.d (.int .i64 0), .d (.int .i64 0), .d (.str []), .nilsl]), (.slot 7, .cells [.d (.int .i64 x0), .d (.int .i64 n0), .d (.str s0), .nilsl])]⟩) := by
  obtain ⟨lf, rfl⟩ : ∃ n, lf = n + 1 := ⟨lf - 1, by omega⟩
  refine loop_step hp ?_
  conv => lhs; whnf
  refine Eq.trans (b := some (Fx.exit (0 : Nat), St.mk [((6 : Nat), AV.ptr (Nm.slot (6 : Nat)) (0 : Nat)), ((7 : Nat), AV.ptr (Nm.slot (7 : Nat)) (0 : Nat))] [(Nm.slot (6 : Nat), AObj.cells [AV.d (D.int IntKind.i64 (0 : Int)), AV.d (D.int IntKind.i64 (0 : Int)), AV.d (D.str []), AV.nilsl]), (Nm.slot (7 : Nat), AObj.cells [AV.d (D.int IntKind.i64 x0), AV.d (D.int IntKind.i64 n0), AV.d (D.str s0), AV.nilsl])])) (by kernel_rfl) ?_
  rfl
theorem ren30Z (j : Nat) (a b : List UInt8) (l : List T) (x0 n0 : Int) (s0 : List UInt8) {lp : LP} (hlp : lp = lpOf Try.prog cfg (icall Try.prog cfg j) Try.f30.ntmps 30 j (([] : Hp).map (·.1))) (hm : l.length ≤ 1000) (hn : l.length ≠ 0) (ih : ∀ x : T, x ∈ l → icall Try.prog cfg j 30 [x.av, .d (.str a), .d (.str b)] [] = some (.ret (renT a b x).av, []))
    (lf : Nat) (hlf : l.length < lf) (st : St) (hp : prune [] [1, 2, 3, 6, 7, 8] st = some (st30 a b l x0 n0 s0)) :
    loopK Try.prog cfg (icall Try.prog cfg j) lp Try.f30.ntmps 30 [] (bodyAt Try.f30 5) lf st (exitP [] (some [6, 7])) = some (.exit 0, ⟨[(6, .ptr (.slot 6) 0), (7, .ptr (.slot 7) 0)], [(.slot 6, .cells [.d (.int .i64 0), .d (.int .i64 0), .d (.str []), .nilsl]), (.slot 7, .cells [.d (.int .i64 x0), .d (.int .i64 n0), .d (.str s0), .own (.slot 45) 0 l.length]), (.slot 45, .arr 24 4 0 (cellsL (renTs a b l)))]⟩) := by
  obtain ⟨lf, rfl⟩ : ∃ n, lf = n + 1 := ⟨lf - 1, by omega⟩
  refine loop_step hp ?_
  have hend : (0 : Int) < ((cellsL l).length : Int) := by rw [cellsL_len]; omega
  have hx : l[0]? = some l[0] := List.getElem?_eq_getElem (by omega)
  generalize l[0] = x at hx
  have hc := ih x (List.mem_of_getElem? hx)
  have hnx : [[.int .i64 (renT a b x).kind, .int .i64 (renT a b x).n, .str (renT a b x).name, .list (cellsL (renT a b x).kids)]] = cellsL (renTs a b (l.take 1)) := by rw [renL_take hx, ← cells_eq]; rfl
  conv => lhs; whnf
  refine iteK_dec_t hend ?_
  conv => lhs; whnf
  refine iteO_t (by kernel_rfl) ?_
  conv => lhs; whnf
  refine nextK_of (aop_ix rfl rfl rfl rfl (ixL_at' (n := 0) rfl (cellsL_get _ _ _ hx) rfl)) ?_
  conv => lhs; whnf
  refine nextK_of hc ?_
  conv => lhs; whnf
  refine iteO_t (by kernel_rfl) ?_
  conv => lhs; whnf
  refine Eq.trans (ren30L j a b l x0 n0 s0 hm ih hlp (l.length - 1) 1 _ _ lf _ (by omega) (by omega) (wrap_up (n := 0) rfl (by unfold maxLen; omega)) hnx (by omega) rfl) ?_
  rfl
theorem ren30 (a b : List UInt8) : ∀ (m : Nat) (t : T), t.wt ≤ m → ∀ d, checkT t d = 0 → t.Few → ∀ k, t.wt < k → icall Try.prog cfg k 30 [t.av, .d (.str a), .d (.str b)] [] = some (.ret (renT a b t).av, []) := by
  intro m
  induction m with
  | zero => intro t h; rw [T.wt_eq] at h; omega
  | succ m ihm =>
  intro t hm d hc hf k hk
  obtain ⟨x, n, s, l⟩ := t
  obtain ⟨f1, f2, f3⟩ := hf
  obtain ⟨c1, c2, c3, c4⟩ := checkT_inv hc
  rw [T.wt] at hm hk
  have hwl := wtL_len l
  obtain ⟨k, rfl⟩ : ∃ j, k = j + 1 := ⟨k - 1, by omega⟩
  have ih := fun y hy => ihm y (by have := wtL_mem l y hy; omega) (d + 1) (checkL_mem c4 hy) (FewL_mem f3 hy) k (by have := wtL_mem l y hy; omega)
  rw [renT]
  have hv : x = 2 → l = [] ∧ n = 0 := fun e => ⟨List.eq_nil_of_length_eq_zero (c2.2.2.1 (by omega)), c2.2.2.2.2.2.2.resolve_right (by omega)⟩
  cases l with
  | nil =>
    show icall Try.prog cfg _ _ [.agg [.d (.int .i64 x), .d (.int .i64 n), .d (.str s), .d (.list (cellsL []))], _, _] [] = _
    rw [icall_body rfl Try.func30]
    obtain ⟨lp, hlp⟩ : ∃ lp, lp = lpOf Try.prog cfg (icall Try.prog cfg k) Try.f30.ntmps 30 k (([] : Hp).map (·.1)) := ⟨_, rfl⟩
    rw [← hlp]
    conv => lhs; whnf
    refine iteK_beq (fun h1 => ?_) (fun h1 => ?_)
    · obtain rfl : x = (2 : Int) := h1
      conv => lhs; whnf
      refine iteK_beq (fun h2 => ?_) (fun h2 => ?_)
      · rw [beq_t h2]
        conv => lhs; whnf
        refine Eq.trans (b := some (Res.ret (AV.agg [AV.d (D.int IntKind.i64 (2 : Int)), AV.d (D.int IntKind.i64 (0 : Int)), AV.d (D.str b), AV.d (D.list [])]), [])) (by kernel_rfl) ?_
        (rw [if_pos ⟨rfl, by assumption⟩, (hv rfl).2]; rfl)
      · rw [beq_f h2]
        conv => lhs; whnf
        refine nextK_of (loop_at hlp (ren30N k a b _ _ _ k (by omega) _ rfl)) ?_
        conv => lhs; whnf
        refine Eq.trans (b := some (Res.ret (AV.agg [AV.d (D.int IntKind.i64 (2 : Int)), AV.d (D.int IntKind.i64 n), AV.d (D.str s), AV.d (D.list [])]), [])) (by kernel_rfl) ?_
        (rw [if_neg (fun h => absurd h.2 (by assumption))]; rfl)
    · rw [beq_f h1]
      conv => lhs; whnf
      refine nextK_of (loop_at hlp (ren30N k a b _ _ _ k (by omega) _ rfl)) ?_
      conv => lhs; whnf
      refine Eq.trans (b := some (Res.ret (AV.agg [AV.d (D.int IntKind.i64 x), AV.d (D.int IntKind.i64 n), AV.d (D.str s), AV.d (D.list [])]), [])) (by kernel_rfl) ?_
      (rw [if_neg (fun h => absurd h.1 (by assumption))]; rfl)
  | cons y r =>
    show icall Try.prog cfg _ _ [.agg [.d (.int .i64 x), .d (.int .i64 n), .d (.str s), .d (.list (cellsL (y :: r)))], _, _] [] = _
    have hx2 : x ≠ 2 := fun e => by have := (hv e).1; cases this
    generalize hl : y :: r = l at *
    have hn : l.length ≠ 0 := by rw [← hl]; simp
    have htk : List.take l.length (cellsL (renTs a b l)) = cellsL (renTs a b l) := List.take_of_length_le (by rw [cellsL_len, renL_map, List.length_map]; omega)
    rw [icall_body rfl Try.func30]
    obtain ⟨lp, hlp⟩ : ∃ lp, lp = lpOf Try.prog cfg (icall Try.prog cfg k) Try.f30.ntmps 30 k (([] : Hp).map (·.1)) := ⟨_, rfl⟩
    rw [← hlp]
    conv => lhs; whnf
    refine iteK_beq_f hx2 ?_
    conv => lhs; whnf
    refine iteK_beq_f hx2 ?_
    conv => lhs; whnf
    refine iteK_beq_f hx2 ?_
    conv => lhs; whnf
    refine iteK_beq_f hx2 ?_
    conv => lhs; whnf
    refine iteK_beq_f hx2 ?_
    conv => lhs; whnf
    refine nextK_of (loop_at hlp (ren30Z k a b l _ _ _ hlp f2 hn ih k (by omega) _ rfl)) ?_
    conv => lhs; whnf
    refine Eq.trans (b := some (Res.ret (AV.agg [AV.d (D.int IntKind.i64 x), AV.d (D.int IntKind.i64 n), AV.d (D.str s), AV.d (D.list (List.take (List.length l) (cellsL (renTs a b l))))]), [])) (by kernel_rfl) ?_
    (rw [htk, if_neg (fun h => absurd h.1 hx2)]; rfl)
theorem check40v (b : List UInt8) (hb : b.length ≤ 140737488351232) (k : Nat) (hk : b.length + 20 < k) : icall Try.prog cfg k 26 [.agg [.d (.int .i64 2), .d (.int .i64 0), .d (.str b), .d (.list [])]] [] = some (.ret (.d (.int .i64 (checkT (.mk 2 0 b []) 1))), []) :=
  check19 (.mk 2 0 b []) ⟨hb, trivial⟩ ⟨by decide, by decide, by unfold maxLen; show b.length ≤ _; omega, by simp, trivial⟩ k (by simp [T.wt, wtL]; omega)
theorem rename14 (a b : List UInt8) (t : T) (hf : t.Few) (ho : t.Ok) (hb : b.length ≤ 140737488351232) (k : Nat) (hk : t.wt + b.length + 22 < k) : icall Try.prog cfg k 14 [t.av, .d (.str a), .d (.str b)] [] = some (.ret (.tuple [(renP a b t).1.av, .d (.int .i64 (renP a b t).2)]), []) := by
  obtain ⟨k, rfl⟩ : ∃ j, k = j + 1 := ⟨k - 1, by omega⟩
  show icall Try.prog cfg _ _ [.agg [.d (.int .i64 t.kind), .d (.int .i64 t.n), .d (.str t.name), .d (.list (cellsL t.kids))], _, _] [] = _
  have c1 := check19 t (few_sm t hf) ho k (by omega)
  have c2 := check40v b hb k (by omega)
  have c3 := fun hc => ren30 a b t.wt t (Nat.le_refl _) 1 hc hf k (by omega)
  unfold renP
  generalize checkT (.mk 2 0 b []) 1 = e2 at c2
  generalize checkT t 1 = e1 at c1 c3
  rw [icall_body rfl Try.func14]
  obtain ⟨lp, hlp⟩ : ∃ lp, lp = lpOf Try.prog cfg (icall Try.prog cfg k) Try.f14.ntmps 14 k (([] : Hp).map (·.1)) := ⟨_, rfl⟩
  rw [← hlp]
  conv => lhs; whnf
  refine nextK_of c1 ?_
  conv => lhs; whnf
  refine iteK_bne (fun h1 => ?_) (fun h1 => ?_)
  · rw [bne_t h1]
    conv => lhs; whnf
    refine Eq.trans (b := some (Res.ret (AV.tuple [AV.agg [AV.d (D.int IntKind.i64 (0 : Int)), AV.d (D.int IntKind.i64 (0 : Int)), AV.d (D.str []), AV.d (D.list [])], AV.d (D.int IntKind.i64 e1)]), [])) (by kernel_rfl) ?_
    (rw [if_pos (by assumption)]; rfl)
  · obtain rfl : e1 = (0 : Int) := h1
    conv => lhs; whnf
    refine nextK_of c2 ?_
    conv => lhs; whnf
    refine iteK_bne (fun h2 => ?_) (fun h2 => ?_)
    · rw [bne_t h2]
      conv => lhs; whnf
      refine Eq.trans (b := some (Res.ret (AV.tuple [AV.agg [AV.d (D.int IntKind.i64 (0 : Int)), AV.d (D.int IntKind.i64 (0 : Int)), AV.d (D.str []), AV.d (D.list [])], AV.d (D.int IntKind.i64 e2)]), [])) (by kernel_rfl) ?_
      (rw [if_neg (by omega), if_pos (by assumption)]; rfl)
    · obtain rfl : e2 = (0 : Int) := h2
      conv => lhs; whnf
      refine nextK_of (c3 (by first | rfl | assumption)) ?_
      conv => lhs; whnf
      refine Eq.trans (b := some (Res.ret (AV.tuple [AV.agg [AV.d (D.int IntKind.i64 (T.kind (renT a b t))), AV.d (D.int IntKind.i64 (T.n (renT a b t))), AV.d (D.str (T.name (renT a b t))), AV.d (D.list (cellsL (T.kids (renT a b t))))], AV.d (D.int IntKind.i64 (0 : Int))]), [])) (by kernel_rfl) ?_
      (rw [if_neg (by omega), if_neg (by omega)]; rfl)
end Go.Rx08
