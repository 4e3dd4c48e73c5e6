/- A part of the proof of the law: what functions of the program come to, walked by Rx, or plain facts on it. -/
import Derived.Test.YtahnmikdpclbfaaRExprB
import Derived.Test.YtahnmikdpclbfaaRSpecY
open Go Go.Rx Go.Proofs Go.Rx11 Go.RxTree
set_option maxRecDepth 1000000
set_option maxHeartbeats 4000000
set_option linter.unusedVariables false
set_option linter.unusedSimpArgs false
namespace Go.Rx11
theorem lenK {l : List T} (h : l.length ≤ 1) : IntKind.u8.wrap ((cellsL l).length : Int) = ((UInt8.ofNat l.length).toNat : Int) := by
  rw [cellsL_len, Go.Rx.wrap_u8 (by omega) (by omega), u8_cell (by omega)]
theorem mbA (j : Nat) (l : List T) (es0 : List (List D)) (esI : List (List D)) (hm : l.length ≤ maxLen) (hall : es0.length + (exprL l).length + 2000000 ≤ 50000000000000)
    (ihO : ∀ x : T, x ∈ l → ∀ (n : Nat) (es : List (List D)), es.length = n → n + (exprB x).length + 2000000 ≤ 50000000000000 → icall Try.prog cfg j 20 [.own (.arg 0) 0 n, x.av] [arrB (.arg 0) 0 es] = some (.ret (.own (.arg 0) 1 (es ++ bL (exprB x)).length), [arrB (.arg 0) 1 (es ++ bL (exprB x))])) {lp : LP} (hlp : lp = lpOf Try.prog cfg (icall Try.prog cfg j) Try.f46.ntmps 46 j ([(Nm.arg 0, AObj.arr 5 1 0 esI)].map (·.1))) :
    ∀ (m i : Nat) (z : Int) (n : Nat) (es : List (List D)) (lf : Nat) (st : St), (l).length - i = m → i ≤ (l).length → z = (i : Int) → es.length = n → es = es0 ++ bL (exprL (l.take i)) → m < lf → prune [Nm.arg 0] [0, 13, 14, 15] st = some ⟨[(0, .own (Nm.arg 0) 1 n), (13, .d (.list (cellsL l))), (14, .d (.int .i64 (cellsL l).length)), (15, .d (.int .i64 z))], [arrB (Nm.arg 0) 1 es]⟩ →
      loopK Try.prog cfg (icall Try.prog cfg j) lp Try.f46.ntmps 46 [Nm.arg 0] (bodyAt Try.f46 3) lf st (exitP [Nm.arg 0] (some [0])) = some (.exit 0, ⟨[(0, .own (Nm.arg 0) 1 (es0 ++ bL (exprL l)).length)], [arrB (Nm.arg 0) 1 (es0 ++ bL (exprL l))]⟩) := by
  intro m
  induction m with
  | zero =>
    intro i z n es lf st hi hle hz hn hes hlf hp
    obtain ⟨lf, rfl⟩ : ∃ n, lf = n + 1 := ⟨lf - 1, by omega⟩
    refine loop_step hp ?_
    have hend : ¬ z < ((cellsL l).length : Int) := by rw [cellsL_len]; omega
    obtain rfl : i = l.length := by omega
    rw [List.take_length] at hes
    subst hn
    subst hes
    conv => lhs; whnf
    refine iteK_dec_f hend ?_
    conv => lhs; whnf
    refine Eq.trans (b := some (Fx.exit (0 : Nat), St.mk [((0 : Nat), AV.own (Nm.arg (0 : Nat)) (nat_lit 1) (List.length (List.append es0 (bL (exprL l)))))] [(Nm.arg (0 : Nat), AObj.arr (5 : Nat) (1 : Nat) (nat_lit 1) (List.append es0 (bL (exprL l))))])) (by kernel_rfl) ?_
    rfl
  | succ m ihm =>
    intro i z n es lf st hi hle hz hn hes hlf hp
    obtain ⟨lf, rfl⟩ : ∃ n, lf = n + 1 := ⟨lf - 1, by omega⟩
    refine loop_step hp ?_
    have hend : z < ((cellsL l).length : Int) := by rw [cellsL_len]; omega
    have hx : l[i]? = some l[i] := List.getElem?_eq_getElem (by omega)
    generalize l[i] = x at hx
    have hxm := List.mem_of_getElem? hx
    have hle := exprL_le hx
    have hel : es.length = es0.length + (exprL (l.take i)).length := by rw [hes, List.length_append, bL_len]
    have hc := ihO x hxm n es hn (by omega)
    have hnx : es ++ bL (exprB x) = es0 ++ bL (exprL (l.take (i + 1))) := by rw [exprL_take hx, ← bL_app, ← List.append_assoc, ← hes]
    conv => lhs; whnf
    refine iteK_dec_t hend ?_
    conv => lhs; whnf
    refine nextK_of (aop_ix rfl rfl rfl rfl (ixL_at' hz (cellsL_get _ _ _ hx) rfl)) ?_
    conv => lhs; whnf
    refine nextK_of hc ?_
    conv => lhs; whnf
    refine Eq.trans (ihm (i + 1) _ _ _ lf _ (by omega) (by omega) (wrap_up hz (by omega)) rfl hnx (by omega) rfl) ?_
    rfl
theorem maybe46 (l : List T) (hl : l.length ≤ 1) (hc : ∀ x ∈ l, checkT x 1 = 0) (ho : OkL l) (n : Nat) (es : List (List D)) (hn : es.length = n) (hb : n + (exprL l).length + 2000010 ≤ 50000000000000) (k : Nat) (hk : wtL l + 40 < k) : icall Try.prog cfg k 46 [.own (.arg 0) 0 n, .d (.list (cellsL l))] [arrB (.arg 0) 0 es] = some (.ret (.own (.arg 0) 1 (es ++ bL (maybeB l)).length), [arrB (.arg 0) 1 (es ++ bL (maybeB l))]) := by
  obtain ⟨k, rfl⟩ : ∃ j, k = j + 1 := ⟨k - 1, by omega⟩
  have hwl := wtL_len l
  have ihO : ∀ x : T, x ∈ l → ∀ (n : Nat) (es : List (List D)), es.length = n → n + (exprB x).length + 2000000 ≤ 50000000000000 → icall Try.prog cfg k 20 [.own (.arg 0) 0 n, x.av] [arrB (.arg 0) 0 es] = some (.ret (.own (.arg 0) 1 (es ++ bL (exprB x)).length), [arrB (.arg 0) 1 (es ++ bL (exprB x))]) := fun x hx => (put20 x.wt x (Nat.le_refl _) 1 (hc x hx) (OkL_mem ho hx) k (by have := wtL_mem l x hx; omega)).1
  have hR : es.take n ++ [[D.int .u8 (IntKind.u8.wrap ((cellsL l).length : Int))]] = es ++ bL [UInt8.ofNat l.length] := by rw [List.take_of_length_le (by omega), lenK hl]; rfl
  have hRl : (es.take n ++ [[D.int .u8 (IntKind.u8.wrap ((cellsL l).length : Int))]]).length = n + 1 := by rw [hR, List.length_append, hn]; rfl
  have hE : es ++ bL (maybeB l) = (es.take n ++ [[D.int .u8 (IntKind.u8.wrap ((cellsL l).length : Int))]]) ++ bL (exprL l) := by rw [hR, maybeB, bL_cons, List.append_assoc]; rfl
  have hall : (es.take n ++ [[D.int .u8 (IntKind.u8.wrap ((cellsL l).length : Int))]]).length + (exprL l).length + 2000000 ≤ 50000000000000 := by omega
  have hnil : (es.take n ++ [[D.int .u8 (IntKind.u8.wrap ((cellsL l).length : Int))]]) = (es.take n ++ [[D.int .u8 (IntKind.u8.wrap ((cellsL l).length : Int))]]) ++ bL (exprL (l.take 0)) := (List.append_nil _).symm
  rw [hE]
  rw [icall_body rfl Try.func46]
  obtain ⟨lp, hlp⟩ : ∃ lp, lp = lpOf Try.prog cfg (icall Try.prog cfg k) Try.f46.ntmps 46 k ([(Nm.arg 0, AObj.arr 5 1 0 es)].map (·.1)) := ⟨_, rfl⟩
  rw [← hlp]
  conv => lhs; whnf
  refine nextK_of (aop_app rfl rfl rfl rfl rfl rfl rfl rfl rfl rfl rfl rfl (lenB (by omega))) ?_
  conv => lhs; whnf
  refine nextK_of (loop_at hlp (mbA k l (es.take n ++ [[D.int .u8 (IntKind.u8.wrap ((cellsL l).length : Int))]]) es (by unfold maxLen; omega) hall ihO hlp l.length 0 0 (n + 1) (es.take n ++ [[D.int .u8 (IntKind.u8.wrap ((cellsL l).length : Int))]]) k _ rfl (Nat.zero_le _) rfl hRl hnil (by omega) rfl)) ?_
  conv => lhs; whnf
  refine Eq.trans (b := some (Res.ret (AV.own (Nm.arg (0 : Nat)) (nat_lit 1) (List.length (List.append (List.append (List.take n es) [[D.int IntKind.u8 (IntKind.wrap IntKind.u8 ↑(List.length (cellsL l)))]]) (bL (exprL l))))), [(Nm.arg (0 : Nat), AObj.arr (5 : Nat) (1 : Nat) (nat_lit 1) (List.append (List.append (List.take n es) [[D.int IntKind.u8 (IntKind.wrap IntKind.u8 ↑(List.length (cellsL l)))]]) (bL (exprL l))))])) (by kernel_rfl) ?_
  rfl
theorem maybe48 (l : List T) (hl : l.length ≤ 1) (hc : ∀ x ∈ l, checkT x 1 = 0) (ho : OkL l) (k : Nat) (hk : wtL l + 40 < k) : icall Try.prog cfg k 48 [.d (.list (cellsL l))] [] = some (.ret (.d (.list (bL (maybeB l)))), []) := by
  obtain ⟨k, rfl⟩ : ∃ j, k = j + 1 := ⟨k - 1, by omega⟩
  have hwl := wtL_len l
  match l, hl, hc, ho, hk, hwl with
  | [], _, _, _, _, _ =>
    rw [icall_body rfl Try.func48]
    obtain ⟨lp, hlp⟩ : ∃ lp, lp = lpOf Try.prog cfg (icall Try.prog cfg k) Try.f48.ntmps 48 k (([] : Hp).map (·.1)) := ⟨_, rfl⟩
    rw [← hlp]
    conv => lhs; whnf
    refine Eq.trans (b := some (Res.ret (AV.d (D.list [[D.int IntKind.u8 (0 : Int)]])), [])) (by kernel_rfl) ?_
    rfl
  | [x], _, hc, ho, hk, _ =>
    have hcx := hc x (by simp)
    have hb := expr_most hcx ho.1
    have hq := expr21 x.wt x (Nat.le_refl _) 1 hcx ho.1 (by omega) k (by have := wtL_mem [x] x (by simp); omega)
    have hlm : 1 + (bL (exprB x)).length ≤ 50000000000000 := by rw [bL_len]; omega
    have g0 : (cellsL [x])[0]? = some [.int .i64 x.kind, .int .i64 x.n, .str x.name, .list (cellsL x.kids)] := cellsL_get _ _ _ rfl
    have hcl : (cellsL [x]).length = 1 := cellsL_len _
    have hm : maybeB [x] = 1 :: exprB x := by unfold maybeB; simp [exprL]
    rw [hm]
    generalize cellsL [x] = cx at *
    generalize exprB x = E at *
    as_aux_lemma =>
      rw [icall_body rfl Try.func48]
      obtain ⟨lp, hlp⟩ : ∃ lp, lp = lpOf Try.prog cfg (icall Try.prog cfg k) Try.f48.ntmps 48 k (([] : Hp).map (·.1)) := ⟨_, rfl⟩
      rw [← hlp]
      conv => lhs; whnf
      refine iteK_beq (fun h1 => ?_) (fun h1 => ?_)
      · rw [beq_t h1]
        (exfalso; omega)
      · rw [beq_f h1]
        conv => lhs; whnf
        refine nextK_of (aop_ix rfl rfl rfl rfl (ixL_at' (n := 0) rfl g0 rfl)) ?_
        conv => lhs; whnf
        refine nextK_of hq ?_
        conv => lhs; whnf
        refine nextK_of (aop_app rfl rfl rfl rfl rfl rfl rfl rfl rfl (bL_all _) rfl rfl (lenB2 hlm)) ?_
        conv => lhs; whnf
        refine Eq.trans (b := some (Res.ret (AV.d (D.list (List.take ((1 : Nat) + List.length (bL E)) ([D.int IntKind.u8 (1 : Int)] :: bL E)))), [])) (by kernel_rfl) ?_
        (rw [List.take_of_length_le (by rw [List.length_cons]; omega)]; rfl)
end Go.Rx11