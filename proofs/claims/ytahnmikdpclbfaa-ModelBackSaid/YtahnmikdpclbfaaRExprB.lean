/- A part of the proof of the law: what functions of the program come to, walked by Rx, or plain facts on it. -/
import Derived.Test.YtahnmikdpclbfaaRPut
open Go Go.Rx Go.Proofs Go.Rx11 Go.RxTree
set_option maxRecDepth 1000000
set_option maxHeartbeats 4000000
set_option linter.unusedVariables false
set_option linter.unusedSimpArgs false
namespace Go.Rx11
abbrev exE (t : T) : Nm × AObj := (.slot 1, .cells [.d (.int .i64 t.kind), .d (.int .i64 t.n), .d (.str t.name), .d (.list (cellsL t.kids))])
theorem ebL (j : Nat) (t : T) (hm : t.kids.length ≤ maxLen) (es0 : List (List D)) (hall : es0.length + (exprL t.kids).length ≤ 50000000000000)
    (ih : ∀ x : T, x ∈ t.kids → icall Try.prog cfg j 21 [x.av] [] = some (.ret (.d (.list (bL (exprB x)))), [])) {lp : LP} (hlp : lp = lpOf Try.prog cfg (icall Try.prog cfg j) Try.f21.ntmps 21 j (([] : Hp).map (·.1))) :
    ∀ (m i : Nat) (z : Int) (n : Nat) (es : List (List D)) (lf : Nat) (st : St), (t.kids).length - i = m → i ≤ (t.kids).length → z = (i : Int) → es.length = n → es = es0 ++ bL (exprL (t.kids.take i)) → m < lf → prune [] [1, 3, 4] st = some ⟨[(1, .ptr (.slot 1) 0), (3, .own (.slot 8) 0 n), (4, .d (.int .i64 z))], [exE t, arrB (.slot 8) 0 es]⟩ →
      loopK Try.prog cfg (icall Try.prog cfg j) lp Try.f21.ntmps 21 [] (bodyAt Try.f21 7) lf st (exitP [] (some [3])) = some (.exit 0, ⟨[(3, .own (.slot 8) 0 (es0 ++ bL (exprL t.kids)).length)], [arrB (.slot 8) 0 (es0 ++ bL (exprL t.kids))]⟩) := by
  intro m
  induction m with
  | zero =>
    intro i z n es lf st hi hle hz hn hes hlf hp
    obtain ⟨lf, rfl⟩ : ∃ n, lf = n + 1 := ⟨lf - 1, by omega⟩
    refine loop_step hp ?_
    have hend : ¬ z < ((cellsL t.kids).length : Int) := by rw [cellsL_len]; omega
    obtain rfl : i = t.kids.length := by omega
    rw [List.take_length] at hes
    subst hn
    subst hes
    conv => lhs; whnf
    refine iteK_dec_f hend ?_
    conv => lhs; whnf
    refine Eq.trans (b := some (Fx.exit (0 : Nat), St.mk [((3 : Nat), AV.own (Nm.slot (8 : Nat)) (nat_lit 0) (List.length (List.append es0 (bL (exprL (T.kids t))))))] [(Nm.slot (8 : Nat), AObj.arr (5 : Nat) (1 : Nat) (nat_lit 0) (List.append es0 (bL (exprL (T.kids t)))))])) (by kernel_rfl) ?_
    rfl
  | succ m ihm =>
    intro i z n es lf st hi hle hz hn hes hlf hp
    obtain ⟨lf, rfl⟩ : ∃ n, lf = n + 1 := ⟨lf - 1, by omega⟩
    refine loop_step hp ?_
    have hend : z < ((cellsL t.kids).length : Int) := by rw [cellsL_len]; omega
    have hx : t.kids[i]? = some t.kids[i] := List.getElem?_eq_getElem (by omega)
    generalize t.kids[i] = x at hx
    have hc := ih x (List.mem_of_getElem? hx)
    have hle := exprL_le hx
    have hel : es.length = es0.length + (exprL (t.kids.take i)).length := by rw [hes, List.length_append, bL_len]
    have hnx : es.take n ++ bL (exprB x) = es0 ++ bL (exprL (t.kids.take (i + 1))) := by rw [exprL_take hx, ← bL_app, ← List.append_assoc, ← hes, List.take_of_length_le (by omega)]
    have hnl : (es.take n ++ bL (exprB x)).length = n + (bL (exprB x)).length := by rw [List.length_append, List.length_take]; omega
    have hlm : n + (bL (exprB x)).length ≤ 50000000000000 := by rw [bL_len]; omega
    conv => lhs; whnf
    refine iteK_dec_t hend ?_
    conv => lhs; whnf
    refine nextK_of (aop_ix rfl rfl rfl rfl (ixL_at' hz (cellsL_get _ _ _ hx) rfl)) ?_
    conv => lhs; whnf
    refine nextK_of hc ?_
    conv => lhs; whnf
    refine nextK_of (aop_app rfl rfl rfl rfl rfl rfl rfl rfl rfl (bL_all _) rfl rfl (lenB2 hlm)) ?_
    conv => lhs; whnf
    refine Eq.trans (ihm (i + 1) _ _ _ lf _ (by omega) (by omega) (wrap_up hz (by omega)) hnl hnx (by omega) rfl) ?_
    rfl
theorem take_full {es : List (List D)} {s : List UInt8} (R : List (List D)) (h : bL s = R) : some (Res.ret (.d (.list (R.take R.length))), ([] : Hp)) = some (Res.ret (.d (.list (bL s))), []) := by rw [h, List.take_length]
theorem expr21 : ∀ (m : Nat) (t : T), t.wt ≤ m → ∀ d, checkT t d = 0 → t.Ok → (exprB t).length ≤ 900000000 → ∀ k, t.wt + 30 < k → icall Try.prog cfg k 21 [t.av] [] = some (.ret (.d (.list (bL (exprB t)))), []) := by
  intro m
  induction m with
  | zero => intro t h; rw [T.wt_eq] at h; omega
  | succ m ihm =>
  intro t hm d hc ho hb k hk
  obtain ⟨x, n, s, l⟩ := t
  obtain ⟨c1, c2, c3, c4⟩ := checkT_inv hc
  obtain ⟨o1, o2, o3, o4, o5⟩ := ho
  have hn := wf_i64.1 o2
  rw [T.wt] at hm hk
  have hwl := wtL_len l
  obtain ⟨k, rfl⟩ : ∃ j, k = j + 1 := ⟨k - 1, by omega⟩
  have hbyte := byteK ⟨c2.1, c2.2.1⟩
  have hE : ∀ q, bL (UInt8.ofNat x.toNat :: q) = [[D.int .u8 (IntKind.u8.wrap x)]] ++ bL q := fun q => by rw [hbyte]; rfl
  show icall Try.prog cfg _ _ [.agg [.d (.int .i64 x), .d (.int .i64 n), .d (.str s), .d (.list (cellsL l))]] _ = _
  rw [exprB, List.length_cons] at hb
  rw [exprB, hE]
  by_cases h1 : x = 1
  · subst h1
    rw [if_pos rfl] at hb ⊢
    have hc := int43 n hn.1 hn.2 k (by omega)
    have hlm : 1 + (bL (uintB (zig n))).length ≤ 50000000000000 := by rw [bL_len]; omega
    rw [icall_body rfl Try.func21]
    obtain ⟨lp, hlp⟩ : ∃ lp, lp = lpOf Try.prog cfg (icall Try.prog cfg k) Try.f21.ntmps 21 k (([] : Hp).map (·.1)) := ⟨_, rfl⟩
    rw [← hlp]
    conv => lhs; whnf
    refine nextK_of hc ?_
    conv => lhs; whnf
    refine nextK_of (aop_app rfl rfl rfl rfl rfl rfl rfl rfl rfl (bL_all _) rfl rfl (lenB2 hlm)) ?_
    conv => lhs; whnf
    refine Eq.trans (b := some (Res.ret (AV.d (D.list (List.take ((1 : Nat) + List.length (bL (uintB (zig n)))) ([D.int IntKind.u8 (1 : Int)] :: bL (uintB (zig n)))))), [])) (by kernel_rfl) ?_
    (rw [List.take_of_length_le (by rw [List.length_cons]; omega)]; rfl)
  · rw [if_neg h1] at hb ⊢
    by_cases h2 : x = 2
    · subst h2
      rw [if_pos rfl] at hb ⊢
      have hc := bytes44 s (by have := name_len c3; omega) k (by omega)
      have hlm : 1 + (bL (bytesB s)).length ≤ 50000000000000 := by rw [bL_len]; omega
      have hlim : s.length ≤ lim := by have := name_len c3; unfold lim; omega
      rw [icall_body rfl Try.func21]
      obtain ⟨lp, hlp⟩ : ∃ lp, lp = lpOf Try.prog cfg (icall Try.prog cfg k) Try.f21.ntmps 21 k (([] : Hp).map (·.1)) := ⟨_, rfl⟩
      rw [← hlp]
      conv => lhs; whnf
      refine nextK_of (aop_bytes rfl rfl rfl rfl hlim) ?_
      conv => lhs; whnf
      refine nextK_of hc ?_
      conv => lhs; whnf
      refine nextK_of (aop_app rfl rfl rfl rfl rfl rfl rfl rfl rfl (by rw [List.take_length]; exact bL_all _) rfl rfl (lenB2 (by rw [List.take_length]; exact hlm))) ?_
      conv => lhs; whnf
      refine Eq.trans (b := some (Res.ret (AV.d (D.list (List.take ((1 : Nat) + List.length (List.take (List.length (bL (bytesB s))) (bL (bytesB s)))) ([D.int IntKind.u8 (2 : Int)] :: List.take (List.length (bL (bytesB s))) (bL (bytesB s)))))), [])) (by kernel_rfl) ?_
      (rw [List.take_length, List.take_of_length_le (by rw [List.length_cons]; omega)]; rfl)
    · rw [if_neg h2] at hb ⊢
      have ih := fun y hy => ihm y (by have := wtL_mem l y hy; omega) (d + 1) (checkL_mem c4 hy) (OkL_mem o5 hy) (by have := exprL_mem hy; omega) k (by have := wtL_mem l y hy; omega)
      have hall : ([[D.int .u8 (IntKind.u8.wrap x)]] : List (List D)).length + (exprL l).length ≤ 50000000000000 := by simp only [List.length_singleton]; omega
      rw [icall_body rfl Try.func21]
      obtain ⟨lp, hlp⟩ : ∃ lp, lp = lpOf Try.prog cfg (icall Try.prog cfg k) Try.f21.ntmps 21 k (([] : Hp).map (·.1)) := ⟨_, rfl⟩
      rw [← hlp]
      conv => lhs; whnf
      refine iteK_beq_f h1 ?_
      conv => lhs; whnf
      refine iteK_beq_f h2 ?_
      conv => lhs; whnf
      refine nextK_of (loop_at hlp (ebL k (.mk x n s l) o4 [[D.int .u8 (IntKind.u8.wrap x)]] hall ih hlp l.length 0 0 1 [[D.int .u8 (IntKind.u8.wrap x)]] k _ rfl (Nat.zero_le _) rfl rfl rfl (by omega) rfl)) ?_
      conv => lhs; whnf
      refine Eq.trans (b := some (Res.ret (AV.d (D.list ([D.int IntKind.u8 (IntKind.wrap IntKind.u8 x)] :: List.take (List.length (bL (exprL (T.kids (T.mk x n s l))))) (bL (exprL (T.kids (T.mk x n s l))))))), [])) (by kernel_rfl) ?_
      (show some (Res.ret (.d (.list (List.take (([[D.int .u8 (IntKind.u8.wrap x)]] : List (List D)) ++ bL (exprL l)).length ([[D.int .u8 (IntKind.u8.wrap x)]] ++ bL (exprL l))))), ([] : Hp)) = _; rw [List.take_length])
end Go.Rx11