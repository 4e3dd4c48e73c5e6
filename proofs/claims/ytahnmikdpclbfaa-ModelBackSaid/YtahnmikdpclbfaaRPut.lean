/- A part of the proof of the law: what functions of the program come to, walked by Rx, or plain facts on it. -/
import Derived.Test.YtahnmikdpclbfaaRInt
import Derived.Test.YtahnmikdpclbfaaRWeight
open Go Go.Rx Go.Proofs Go.Rx11 Go.RxTree
set_option maxRecDepth 1000000
set_option maxHeartbeats 4000000
set_option linter.unusedVariables false
set_option linter.unusedSimpArgs false
namespace Go.Rx11
theorem byteK {k : Int} (h : 1 ≤ k ∧ k ≤ 14) : IntKind.u8.wrap k = ((UInt8.ofNat k.toNat).toNat : Int) := by
  rw [Go.Rx.wrap_u8 (by omega) (by omega), u8_cell (by omega)]; omega
theorem pxA (j : Nat) (l : List T) (es0 : List (List D)) (esI : List (List D)) (hm : l.length ≤ maxLen) (hall : es0.length + (exprL l).length + 2000000 ≤ 50000000000000)
    (ihO : ∀ x : T, x ∈ l → ∀ (n : Nat) (es : List (List D)), es.length = n → n + (exprB x).length + 2000000 ≤ 50000000000000 → icall Try.prog cfg j 20 [.own (.arg 0) 0 n, x.av] [arrB (.arg 0) 0 es] = some (.ret (.own (.arg 0) 1 (es ++ bL (exprB x)).length), [arrB (.arg 0) 1 (es ++ bL (exprB x))])) {lp : LP} (hlp : lp = lpOf Try.prog cfg (icall Try.prog cfg j) Try.f20.ntmps 20 j ([(Nm.arg 0, AObj.arr 5 1 0 esI)].map (·.1))) :
    ∀ (m i : Nat) (z : Int) (n : Nat) (es : List (List D)) (lf : Nat) (st : St), (l).length - i = m → i ≤ (l).length → z = (i : Int) → es.length = n → es = es0 ++ bL (exprL (l.take i)) → m < lf → prune [Nm.arg 0] [0, 29, 30, 31] st = some ⟨[(0, .own (Nm.arg 0) 1 n), (29, .d (.list (cellsL l))), (30, .d (.int .i64 (cellsL l).length)), (31, .d (.int .i64 z))], [arrB (Nm.arg 0) 1 es]⟩ →
      loopK Try.prog cfg (icall Try.prog cfg j) lp Try.f20.ntmps 20 [Nm.arg 0] (bodyAt Try.f20 8) lf st (exitP [Nm.arg 0] (some [0])) = some (.exit 1, ⟨[(0, .own (Nm.arg 0) 1 (es0 ++ bL (exprL l)).length)], [arrB (Nm.arg 0) 1 (es0 ++ bL (exprL l))]⟩) := by
  intro m
  induction m with
  | zero =>
    intro i z n es lf st hi hle hz hn hes hlf hp
    obtain ⟨lf, rfl⟩ : ∃ n, lf = n + 1 := ⟨lf - 1, by omega⟩
    refine loop_step hp ?_
    have hend : ¬ z < ((cellsL l).length : Int) := by rw [cellsL_len]; omega
    obtain rfl : i = l.length := by omega
    rw [List.take_length] at hes
    subst hn
    subst hes
    conv => lhs; whnf
    refine iteK_dec_f hend ?_
    conv => lhs; whnf
    refine Eq.trans (b := some (Fx.exit (1 : Nat), St.mk [((0 : Nat), AV.own (Nm.arg (0 : Nat)) (nat_lit 1) (List.length (List.append es0 (bL (exprL l)))))] [(Nm.arg (0 : Nat), AObj.arr (5 : Nat) (1 : Nat) (nat_lit 1) (List.append es0 (bL (exprL l))))])) (by kernel_rfl) ?_
    rfl
  | succ m ihm =>
    intro i z n es lf st hi hle hz hn hes hlf hp
    obtain ⟨lf, rfl⟩ : ∃ n, lf = n + 1 := ⟨lf - 1, by omega⟩
    refine loop_step hp ?_
    have hend : z < ((cellsL l).length : Int) := by rw [cellsL_len]; omega
    have hx : l[i]? = some l[i] := List.getElem?_eq_getElem (by omega)
    generalize l[i] = x at hx
    have hxm := List.mem_of_getElem? hx
    have hle := exprL_le hx
    have hel : es.length = es0.length + (exprL (l.take i)).length := by rw [hes, List.length_append, bL_len]
    have hc := ihO x hxm n es hn (by omega)
    have hnx : es ++ bL (exprB x) = es0 ++ bL (exprL (l.take (i + 1))) := by rw [exprL_take hx, ← bL_app, ← List.append_assoc, ← hes]
    conv => lhs; whnf
    refine iteK_dec_t hend ?_
    conv => lhs; whnf
    refine nextK_of (aop_ix rfl rfl rfl rfl (ixL_at' hz (cellsL_get _ _ _ hx) rfl)) ?_
    conv => lhs; whnf
    refine nextK_of hc ?_
    conv => lhs; whnf
    refine Eq.trans (ihm (i + 1) _ _ _ lf _ (by omega) (by omega) (wrap_up hz (by omega)) rfl hnx (by omega) rfl) ?_
    rfl
theorem pxS (j : Nat) (l : List T) (es0 : List (List D)) (hm : l.length ≤ maxLen) (hall : es0.length + (exprL l).length + 2000000 ≤ 50000000000000)
    (ihO : ∀ x : T, x ∈ l → ∀ (n : Nat) (es : List (List D)), es.length = n → n + (exprB x).length + 2000000 ≤ 50000000000000 → icall Try.prog cfg j 20 [.own (.arg 0) 0 n, x.av] [arrB (.arg 0) 0 es] = some (.ret (.own (.arg 0) 1 (es ++ bL (exprB x)).length), [arrB (.arg 0) 1 (es ++ bL (exprB x))])) {lp : LP} (hlp : lp = lpOf Try.prog cfg (icall Try.prog cfg j) Try.f20.ntmps 20 j (([] : Hp).map (·.1))) :
    ∀ (m i : Nat) (z : Int) (n : Nat) (es : List (List D)) (lf : Nat) (st : St), (l).length - i = m → i ≤ (l).length → z = (i : Int) → es.length = n → es = es0 ++ bL (exprL (l.take i)) → m < lf → prune [] [0, 29, 30, 31] st = some ⟨[(0, .own (Nm.slot 12) 0 n), (29, .d (.list (cellsL l))), (30, .d (.int .i64 (cellsL l).length)), (31, .d (.int .i64 z))], [arrB (Nm.slot 12) 0 es]⟩ →
      loopK Try.prog cfg (icall Try.prog cfg j) lp Try.f20.ntmps 20 [] (bodyAt Try.f20 8) lf st (exitP [] (some [0])) = some (.exit 1, ⟨[(0, .own (Nm.slot 12) 0 (es0 ++ bL (exprL l)).length)], [arrB (Nm.slot 12) 0 (es0 ++ bL (exprL l))]⟩) := by
  intro m
  induction m with
  | zero =>
    intro i z n es lf st hi hle hz hn hes hlf hp
    obtain ⟨lf, rfl⟩ : ∃ n, lf = n + 1 := ⟨lf - 1, by omega⟩
    refine loop_step hp ?_
    have hend : ¬ z < ((cellsL l).length : Int) := by rw [cellsL_len]; omega
    obtain rfl : i = l.length := by omega
    rw [List.take_length] at hes
    subst hn
    subst hes
    conv => lhs; whnf
    refine iteK_dec_f hend ?_
    conv => lhs; whnf
    refine Eq.trans (b := some (Fx.exit (1 : Nat), St.mk [((0 : Nat), AV.own (Nm.slot (12 : Nat)) (nat_lit 0) (List.length (List.append es0 (bL (exprL l)))))] [(Nm.slot (12 : Nat), AObj.arr (5 : Nat) (1 : Nat) (nat_lit 0) (List.append es0 (bL (exprL l))))])) (by kernel_rfl) ?_
    rfl
  | succ m ihm =>
    intro i z n es lf st hi hle hz hn hes hlf hp
    obtain ⟨lf, rfl⟩ : ∃ n, lf = n + 1 := ⟨lf - 1, by omega⟩
    refine loop_step hp ?_
    have hend : z < ((cellsL l).length : Int) := by rw [cellsL_len]; omega
    have hx : l[i]? = some l[i] := List.getElem?_eq_getElem (by omega)
    generalize l[i] = x at hx
    have hxm := List.mem_of_getElem? hx
    have hle := exprL_le hx
    have hel : es.length = es0.length + (exprL (l.take i)).length := by rw [hes, List.length_append, bL_len]
    have hc := ihO x hxm n es hn (by omega)
    have hnx : es ++ bL (exprB x) = es0 ++ bL (exprL (l.take (i + 1))) := by rw [exprL_take hx, ← bL_app, ← List.append_assoc, ← hes]
    conv => lhs; whnf
    refine iteK_dec_t hend ?_
    conv => lhs; whnf
    refine nextK_of (aop_ix rfl rfl rfl rfl (ixL_at' hz (cellsL_get _ _ _ hx) rfl)) ?_
    conv => lhs; whnf
    refine nextK_of hc ?_
    conv => lhs; whnf
    refine Eq.trans (ihm (i + 1) _ _ _ lf _ (by omega) (by omega) (wrap_up hz (by omega)) rfl hnx (by omega) rfl) ?_
    rfl
/-- What PutExpr comes to: behind a row that is there, or none. -/
def Px (k : Nat) (t : T) : Prop :=
  (∀ (n : Nat) (es : List (List D)), es.length = n → n + (exprB t).length + 2000000 ≤ 50000000000000 → icall Try.prog cfg k 20 [.own (.arg 0) 0 n, t.av] [arrB (.arg 0) 0 es] = some (.ret (.own (.arg 0) 1 (es ++ bL (exprB t)).length), [arrB (.arg 0) 1 (es ++ bL (exprB t))])) ∧
  ((exprB t).length + 2000000 ≤ 50000000000000 → icall Try.prog cfg k 20 [.nilsl, t.av] [] = some (.ret (.own (.res 0) 0 (bL (exprB t)).length), [arrB (.res 0) 0 (bL (exprB t))]))
theorem bL_cons (b : UInt8) (s : List UInt8) : bL (b :: s) = [[.int .u8 b.toNat]] ++ bL s := rfl
theorem put20 : ∀ (m : Nat) (t : T), t.wt ≤ m → ∀ d, checkT t d = 0 → t.Ok → ∀ k, t.wt + 30 < k → Px k t := by
  intro m
  induction m with
  | zero => intro t h; rw [T.wt_eq] at h; omega
  | succ m ihm =>
  intro t hm d hc ho k hk
  obtain ⟨x, n, s, l⟩ := t
  obtain ⟨c1, c2, c3, c4⟩ := checkT_inv hc
  obtain ⟨o1, o2, o3, o4, o5⟩ := ho
  have hn := wf_i64.1 o2
  rw [T.wt] at hm hk
  have hwl := wtL_len l
  obtain ⟨k, rfl⟩ : ∃ j, k = j + 1 := ⟨k - 1, by omega⟩
  have ih := fun y hy => ihm y (by have := wtL_mem l y hy; omega) (d + 1) (checkL_mem c4 hy) (OkL_mem o5 hy) k (by have := wtL_mem l y hy; omega)
  have ihO := fun y hy => (ih y hy).1
  have hbyte := byteK ⟨c2.1, c2.2.1⟩
  refine ⟨fun nn es hnn hb => ?_, fun hb => ?_⟩
  · show icall Try.prog cfg _ _ [_, .agg [.d (.int .i64 x), .d (.int .i64 n), .d (.str s), .d (.list (cellsL l))]] _ = _
    have hR : es.take nn ++ [[D.int .u8 (IntKind.u8.wrap x)]] = es ++ bL [UInt8.ofNat x.toNat] := by rw [List.take_of_length_le (by omega), hbyte]; rfl
    have hRl : (es.take nn ++ [[D.int .u8 (IntKind.u8.wrap x)]]).length = nn + 1 := by rw [hR, List.length_append, hnn]; rfl
    have hE : ∀ q, es ++ bL (UInt8.ofNat x.toNat :: q) = (es.take nn ++ [[D.int .u8 (IntKind.u8.wrap x)]]) ++ bL q := fun q => by rw [hR, bL_cons, List.append_assoc]; rfl
    rw [exprB, List.length_cons] at hb
    rw [exprB, hE]
    by_cases h1 : x = 1
    · subst h1
      rw [if_pos rfl] at hb ⊢
      have hc := int41 n hn.1 hn.2 (nn + 1) (es.take nn ++ [[D.int .u8 (IntKind.u8.wrap 1)]]) hRl (by omega) k (by omega)
      rw [icall_body rfl Try.func20]
      obtain ⟨lp, hlp⟩ : ∃ lp, lp = lpOf Try.prog cfg (icall Try.prog cfg k) Try.f20.ntmps 20 k ([(Nm.arg 0, AObj.arr 5 1 0 es)].map (·.1)) := ⟨_, rfl⟩
      rw [← hlp]
      conv => lhs; whnf
      refine nextK_of (aop_app rfl rfl rfl rfl rfl rfl rfl rfl rfl rfl rfl rfl (lenB (by omega))) ?_
      conv => lhs; whnf
      refine nextK_of hc ?_
      conv => lhs; whnf
      refine Eq.trans (b := some (Res.ret (AV.own (Nm.arg (0 : Nat)) (nat_lit 1) (List.length (List.append (List.append (List.take nn es) [[D.int IntKind.u8 (1 : Int)]]) (bL (uintB (zig n)))))), [(Nm.arg (0 : Nat), AObj.arr (5 : Nat) (1 : Nat) (nat_lit 1) (List.append (List.append (List.take nn es) [[D.int IntKind.u8 (1 : Int)]]) (bL (uintB (zig n)))))])) (by kernel_rfl) ?_
      rfl
    · rw [if_neg h1] at hb ⊢
      by_cases h2 : x = 2
      · subst h2
        rw [if_pos rfl] at hb ⊢
        have hc := bytes42 s (by have := name_len c3; omega) (nn + 1) (es.take nn ++ [[D.int .u8 (IntKind.u8.wrap 2)]]) hRl (by omega) k (by omega)
        have hlim : s.length ≤ lim := by have := name_len c3; unfold lim; omega
        rw [icall_body rfl Try.func20]
        obtain ⟨lp, hlp⟩ : ∃ lp, lp = lpOf Try.prog cfg (icall Try.prog cfg k) Try.f20.ntmps 20 k ([(Nm.arg 0, AObj.arr 5 1 0 es)].map (·.1)) := ⟨_, rfl⟩
        rw [← hlp]
        conv => lhs; whnf
        refine nextK_of (aop_app rfl rfl rfl rfl rfl rfl rfl rfl rfl rfl rfl rfl (lenB (by omega))) ?_
        conv => lhs; whnf
        refine nextK_of (aop_bytes rfl rfl rfl rfl hlim) ?_
        conv => lhs; whnf
        refine nextK_of hc ?_
        conv => lhs; whnf
        refine Eq.trans (b := some (Res.ret (AV.own (Nm.arg (0 : Nat)) (nat_lit 1) (List.length (List.append (List.append (List.take nn es) [[D.int IntKind.u8 (2 : Int)]]) (bL (bytesB s))))), [(Nm.arg (0 : Nat), AObj.arr (5 : Nat) (1 : Nat) (nat_lit 1) (List.append (List.append (List.take nn es) [[D.int IntKind.u8 (2 : Int)]]) (bL (bytesB s))))])) (by kernel_rfl) ?_
        rfl
      · rw [if_neg h2] at hb ⊢
        have hall : (es.take nn ++ [[D.int .u8 (IntKind.u8.wrap x)]]).length + (exprL l).length + 2000000 ≤ 50000000000000 := by omega
        have hnil : (es.take nn ++ [[D.int .u8 (IntKind.u8.wrap x)]]) = (es.take nn ++ [[D.int .u8 (IntKind.u8.wrap x)]]) ++ bL (exprL (l.take 0)) := (List.append_nil _).symm
        rw [icall_body rfl Try.func20]
        obtain ⟨lp, hlp⟩ : ∃ lp, lp = lpOf Try.prog cfg (icall Try.prog cfg k) Try.f20.ntmps 20 k ([(Nm.arg 0, AObj.arr 5 1 0 es)].map (·.1)) := ⟨_, rfl⟩
        rw [← hlp]
        conv => lhs; whnf
        refine nextK_of (aop_app rfl rfl rfl rfl rfl rfl rfl rfl rfl rfl rfl rfl (lenB (by omega))) ?_
        conv => lhs; whnf
        refine iteK_beq_f h1 ?_
        conv => lhs; whnf
        refine iteK_beq_f h2 ?_
        conv => lhs; whnf
        refine nextK_of (loop_at hlp (pxA k l (es.take nn ++ [[D.int .u8 (IntKind.u8.wrap x)]]) es o4 hall ihO hlp l.length 0 0 (nn + 1) (es.take nn ++ [[D.int .u8 (IntKind.u8.wrap x)]]) k _ rfl (Nat.zero_le _) rfl hRl hnil (by omega) rfl)) ?_
        conv => lhs; whnf
        refine Eq.trans (b := some (Res.ret (AV.own (Nm.arg (0 : Nat)) (nat_lit 1) (List.length (List.append (List.append (List.take nn es) [[D.int IntKind.u8 (IntKind.wrap IntKind.u8 x)]]) (bL (exprL l))))), [(Nm.arg (0 : Nat), AObj.arr (5 : Nat) (1 : Nat) (nat_lit 1) (List.append (List.append (List.take nn es) [[D.int IntKind.u8 (IntKind.wrap IntKind.u8 x)]]) (bL (exprL l))))])) (by kernel_rfl) ?_
        rfl
  · show icall Try.prog cfg _ _ [_, .agg [.d (.int .i64 x), .d (.int .i64 n), .d (.str s), .d (.list (cellsL l))]] _ = _
    have hE : ∀ q, bL (UInt8.ofNat x.toNat :: q) = [[D.int .u8 (IntKind.u8.wrap x)]] ++ bL q := fun q => by rw [hbyte]; rfl
    rw [exprB, List.length_cons] at hb
    rw [exprB, hE]
    by_cases h1 : x = 1
    · subst h1
      rw [if_pos rfl] at hb ⊢
      have hc := int41 n hn.1 hn.2 1 [[D.int .u8 (IntKind.u8.wrap 1)]] rfl (by omega) k (by omega)
      rw [icall_body rfl Try.func20]
      obtain ⟨lp, hlp⟩ : ∃ lp, lp = lpOf Try.prog cfg (icall Try.prog cfg k) Try.f20.ntmps 20 k (([] : Hp).map (·.1)) := ⟨_, rfl⟩
      rw [← hlp]
      conv => lhs; whnf
      refine nextK_of hc ?_
      conv => lhs; whnf
      refine Eq.trans (b := some (Res.ret (AV.own (Nm.res (0 : Nat)) (nat_lit 0) (List.length ([D.int IntKind.u8 (1 : Int)] :: bL (uintB (zig n))))), [(Nm.res (0 : Nat), AObj.arr (5 : Nat) (1 : Nat) (nat_lit 0) ([D.int IntKind.u8 (1 : Int)] :: bL (uintB (zig n))))])) (by kernel_rfl) ?_
      rfl
    · rw [if_neg h1] at hb ⊢
      by_cases h2 : x = 2
      · subst h2
        rw [if_pos rfl] at hb ⊢
        have hc := bytes42 s (by have := name_len c3; omega) 1 [[D.int .u8 (IntKind.u8.wrap 2)]] rfl (by omega) k (by omega)
        have hlim : s.length ≤ lim := by have := name_len c3; unfold lim; omega
        rw [icall_body rfl Try.func20]
        obtain ⟨lp, hlp⟩ : ∃ lp, lp = lpOf Try.prog cfg (icall Try.prog cfg k) Try.f20.ntmps 20 k (([] : Hp).map (·.1)) := ⟨_, rfl⟩
        rw [← hlp]
        conv => lhs; whnf
        refine nextK_of (aop_bytes rfl rfl rfl rfl hlim) ?_
        conv => lhs; whnf
        refine nextK_of hc ?_
        conv => lhs; whnf
        refine Eq.trans (b := some (Res.ret (AV.own (Nm.res (0 : Nat)) (nat_lit 0) (List.length ([D.int IntKind.u8 (2 : Int)] :: bL (bytesB s)))), [(Nm.res (0 : Nat), AObj.arr (5 : Nat) (1 : Nat) (nat_lit 0) ([D.int IntKind.u8 (2 : Int)] :: bL (bytesB s)))])) (by kernel_rfl) ?_
        rfl
      · rw [if_neg h2] at hb ⊢
        rw [icall_body rfl Try.func20]
        obtain ⟨lp, hlp⟩ : ∃ lp, lp = lpOf Try.prog cfg (icall Try.prog cfg k) Try.f20.ntmps 20 k (([] : Hp).map (·.1)) := ⟨_, rfl⟩
        rw [← hlp]
        conv => lhs; whnf
        refine iteK_beq_f h1 ?_
        conv => lhs; whnf
        refine iteK_beq_f h2 ?_
        conv => lhs; whnf
        refine nextK_of (loop_at hlp (pxS k l [[D.int .u8 (IntKind.u8.wrap x)]] o4 (by simp only [List.length_singleton]; omega) ihO hlp l.length 0 0 1 [[D.int .u8 (IntKind.u8.wrap x)]] k _ rfl (Nat.zero_le _) rfl rfl rfl (by omega) rfl)) ?_
        conv => lhs; whnf
        refine Eq.trans (b := some (Res.ret (AV.own (Nm.res (0 : Nat)) (nat_lit 0) (List.length ([D.int IntKind.u8 (IntKind.wrap IntKind.u8 x)] :: bL (exprL l)))), [(Nm.res (0 : Nat), AObj.arr (5 : Nat) (1 : Nat) (nat_lit 0) ([D.int IntKind.u8 (IntKind.wrap IntKind.u8 x)] :: bL (exprL l)))])) (by kernel_rfl) ?_
        rfl
end Go.Rx11