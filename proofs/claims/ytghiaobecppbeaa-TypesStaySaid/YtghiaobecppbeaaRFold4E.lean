/- A part of the proof of the law: what functions of the program come to, walked by Rx, or plain facts on it. -/
import Derived.Test.YtghiaobecppbeaaRFoldK
open Go Go.Rx Go.Proofs Go.Rx08 Go.RxTree
set_option maxRecDepth 1000000
set_option maxHeartbeats 4000000
set_option linter.unusedVariables false
set_option linter.unusedSimpArgs false
namespace Go.Rx08
theorem fold35_2NN (x : Int) (hx : 7 ≤ x ∧ x ≤ 14) (c : Bool) (hB : Both x false false) (a b : T) (m : Int) (hm : InN m) (p : Int) (hp : InN p) (es : List (List D)) (hl : es.length = 2) (g0 : es[0]? = some [.int .i64 a.kind, .int .i64 a.n, .str a.name, .list (cellsL a.kids)]) (g1 : es[1]? = some [.int .i64 b.kind, .int .i64 b.n, .str b.name, .list (cellsL b.kids)]) (k : Nat) (ca : icall Try.prog cfg (k + 3) 35 [a.av] [] = some (.ret (numT m).av, [])) (cb : icall Try.prog cfg (k + 3) 35 [b.av] [] = some (.ret (numT p).av, [])) :
    icall Try.prog cfg (k + 4) 35 [.agg [.d (.int .i64 x), .d (.int .i64 0), .d (.str []), .d (.list es)]] [] = some (.ret (twoT x (numT m) (numT p)).av, []) := by
  have ka := knownN m (k + 3) (by omega)
  have kb := knownN p (k + 3) (by omega)
  obtain ⟨q1, q2, q3⟩ := hB
  have n13 : x ≠ 13 := fun e => by have := q2 (.inl e); simp at this
  have n14 : x ≠ 14 := fun e => by have := q2 (.inr e); simp at this
  have cb2 := both49 x m p hm hp (k + 3) (by omega)
  have bv := @both_v x m p
  rw [two_nn n13 n14]
  obtain ⟨o, ho⟩ : ∃ o, o = bothT x m p := ⟨_, rfl⟩
  rw [← ho] at cb2 bv ⊢
  generalize bothV x m p = v at cb2 bv
  cases o with
  | none =>
    show icall Try.prog cfg (k + 3 + 1) _ _ _ = _
    have w1 : IntKind.i64.wrap (0 + 1) = 1 := by decide
    have w2 : IntKind.i64.wrap (IntKind.i64.wrap (0 + 1) + 1) = 2 := by decide
    have cy := fun b => yes48 b (k + 3) (by omega)
    rw [icall_body rfl Try.func35]
    generalize icall Try.prog cfg (k + 3) = ic at *
    as_aux_lemma =>
      obtain ⟨lp, hlp⟩ : ∃ lp, lp = lpOf Try.prog cfg ic Try.f35.ntmps 35 (k + 3) ((([] : Hp)).map (·.1)) := ⟨_, rfl⟩
      rw [← hlp]
      conv => lhs; whnf
      refine (loop_goE hlp ?_)
      conv => lhs; whnf
      refine nextK_of (holdO_of (a := St.mk [((1 : Nat), AV.ptr (Nm.slot (1 : Nat)) (0 : Nat)), ((2 : Nat), AV.ptr (Nm.slot (2 : Nat)) (0 : Nat)), ((3 : Nat), AV.ptr (Nm.slot (3 : Nat)) (0 : Nat)), ((4 : Nat), AV.ptr (Nm.slot (4 : Nat)) (0 : Nat)), ((5 : Nat), AV.d (D.bool (decide (↑(List.length es) > (0 : Int))))), ((27 : Nat), AV.d (D.list es)), ((28 : Nat), AV.d (D.int IntKind.i64 ↑(List.length es))), ((29 : Nat), AV.d (D.int IntKind.i64 (0 : Int)))] [(Nm.slot (1 : Nat), AObj.cells [AV.d (D.int IntKind.i64 x), AV.d (D.int IntKind.i64 (0 : Int)), AV.d (D.str []), AV.d (D.list es)]), (Nm.slot (2 : Nat), AObj.cells [AV.d (D.int IntKind.i64 (0 : Int)), AV.d (D.int IntKind.i64 (0 : Int)), AV.d (D.str []), AV.nilsl]), (Nm.slot (3 : Nat), AObj.cells [AV.d (D.int IntKind.i64 x), AV.d (D.int IntKind.i64 (0 : Int)), AV.d (D.str []), AV.nilsl]), (Nm.slot (4 : Nat), AObj.cells [AV.d (D.int IntKind.i64 (0 : Int)), AV.d (D.int IntKind.i64 (0 : Int))])]) (by kernel_rfl)) ?_
      conv => lhs; whnf
      refine iteK_dec (fun h1 => ?_) (fun h1 => ?_)
      · rw [dec_t h1]
        conv => lhs; whnf
        refine nextK_of (aop_ix rfl rfl rfl rfl (ixL_at' (n := 0) rfl g0 rfl)) ?_
        conv => lhs; whnf
        refine nextK_of ca ?_
        conv => lhs; whnf
        refine nextK_of ka ?_
        conv => lhs; whnf
        refine nextK_of (holdO_of (a := St.mk [((1 : Nat), AV.ptr (Nm.slot (1 : Nat)) (0 : Nat)), ((2 : Nat), AV.ptr (Nm.slot (2 : Nat)) (0 : Nat)), ((3 : Nat), AV.ptr (Nm.slot (3 : Nat)) (0 : Nat)), ((4 : Nat), AV.ptr (Nm.slot (4 : Nat)) (0 : Nat)), ((5 : Nat), AV.d (D.bool true)), ((27 : Nat), AV.d (D.list es)), ((28 : Nat), AV.d (D.int IntKind.i64 ↑(List.length es))), ((29 : Nat), AV.d (D.int IntKind.i64 (1 : Int)))] [(Nm.slot (1 : Nat), AObj.cells [AV.d (D.int IntKind.i64 x), AV.d (D.int IntKind.i64 (0 : Int)), AV.d (D.str []), AV.d (D.list es)]), (Nm.slot (2 : Nat), AObj.cells [AV.d (D.int IntKind.i64 (0 : Int)), AV.d (D.int IntKind.i64 (0 : Int)), AV.d (D.str []), AV.nilsl]), (Nm.slot (3 : Nat), AObj.cells [AV.d (D.int IntKind.i64 x), AV.d (D.int IntKind.i64 (0 : Int)), AV.d (D.str []), AV.own (Nm.slot (52 : Nat)) (nat_lit 0) (List.length [[D.int IntKind.i64 (T.kind (numT m)), D.int IntKind.i64 (T.n (numT m)), D.str [], D.list []]])]), (Nm.slot (4 : Nat), AObj.cells [AV.d (D.int IntKind.i64 m), AV.d (D.int IntKind.i64 (0 : Int))]), (Nm.slot (52 : Nat), AObj.arr (24 : Nat) (4 : Nat) (nat_lit 0) [[D.int IntKind.i64 (T.kind (numT m)), D.int IntKind.i64 (T.n (numT m)), D.str [], D.list []]])]) (by kernel_rfl)) ?_
        conv => lhs; whnf
        refine iteK_dec (fun h2 => ?_) (fun h2 => ?_)
        · rw [dec_t h2]
          conv => lhs; whnf
          refine nextK_of (aop_ix rfl rfl rfl rfl (ixL_at' (n := 1) rfl g1 rfl)) ?_
          conv => lhs; whnf
          refine nextK_of cb ?_
          conv => lhs; whnf
          refine nextK_of kb ?_
          conv => lhs; whnf
          refine nextK_of (holdO_of (a := St.mk [((1 : Nat), AV.ptr (Nm.slot (1 : Nat)) (0 : Nat)), ((2 : Nat), AV.ptr (Nm.slot (2 : Nat)) (0 : Nat)), ((3 : Nat), AV.ptr (Nm.slot (3 : Nat)) (0 : Nat)), ((4 : Nat), AV.ptr (Nm.slot (4 : Nat)) (0 : Nat)), ((5 : Nat), AV.d (D.bool true)), ((27 : Nat), AV.d (D.list es)), ((28 : Nat), AV.d (D.int IntKind.i64 ↑(List.length es))), ((29 : Nat), AV.d (D.int IntKind.i64 (2 : Int)))] [(Nm.slot (1 : Nat), AObj.cells [AV.d (D.int IntKind.i64 x), AV.d (D.int IntKind.i64 (0 : Int)), AV.d (D.str []), AV.d (D.list es)]), (Nm.slot (2 : Nat), AObj.cells [AV.d (D.int IntKind.i64 (0 : Int)), AV.d (D.int IntKind.i64 (0 : Int)), AV.d (D.str []), AV.nilsl]), (Nm.slot (3 : Nat), AObj.cells [AV.d (D.int IntKind.i64 x), AV.d (D.int IntKind.i64 (0 : Int)), AV.d (D.str []), AV.own (Nm.slot (52 : Nat)) (nat_lit 0) (List.length [[D.int IntKind.i64 (T.kind (numT m)), D.int IntKind.i64 (T.n (numT m)), D.str [], D.list []]] + List.length [[D.int IntKind.i64 (T.kind (numT p)), D.int IntKind.i64 (T.n (numT p)), D.str [], D.list []]])]), (Nm.slot (4 : Nat), AObj.cells [AV.d (D.int IntKind.i64 m), AV.d (D.int IntKind.i64 p)]), (Nm.slot (52 : Nat), AObj.arr (24 : Nat) (4 : Nat) (nat_lit 0) [[D.int IntKind.i64 (T.kind (numT m)), D.int IntKind.i64 (T.n (numT m)), D.str [], D.list []], [D.int IntKind.i64 (T.kind (numT p)), D.int IntKind.i64 (T.n (numT p)), D.str [], D.list []]])]) (by kernel_rfl)) ?_
          conv => lhs; whnf
          refine iteK_dec (fun h3 => ?_) (fun h3 => ?_)
          · rw [dec_t h3]
            (exfalso; omega)
          · rw [dec_f h3]
            conv => lhs; whnf
            refine nextK_of (holdO_of (a := (Fx.exit (0 : Nat), St.mk [((1 : Nat), AV.ptr (Nm.slot (1 : Nat)) (0 : Nat)), ((2 : Nat), AV.ptr (Nm.slot (2 : Nat)) (0 : Nat)), ((3 : Nat), AV.ptr (Nm.slot (3 : Nat)) (0 : Nat)), ((4 : Nat), AV.ptr (Nm.slot (4 : Nat)) (0 : Nat)), ((5 : Nat), AV.d (D.bool true))] [(Nm.slot (1 : Nat), AObj.cells [AV.d (D.int IntKind.i64 x), AV.d (D.int IntKind.i64 (0 : Int)), AV.d (D.str []), AV.d (D.list es)]), (Nm.slot (2 : Nat), AObj.cells [AV.d (D.int IntKind.i64 (0 : Int)), AV.d (D.int IntKind.i64 (0 : Int)), AV.d (D.str []), AV.nilsl]), (Nm.slot (3 : Nat), AObj.cells [AV.d (D.int IntKind.i64 x), AV.d (D.int IntKind.i64 (0 : Int)), AV.d (D.str []), AV.own (Nm.slot (52 : Nat)) (nat_lit 0) (List.length [[D.int IntKind.i64 (T.kind (numT m)), D.int IntKind.i64 (T.n (numT m)), D.str [], D.list []]] + List.length [[D.int IntKind.i64 (T.kind (numT p)), D.int IntKind.i64 (T.n (numT p)), D.str [], D.list []]])]), (Nm.slot (4 : Nat), AObj.cells [AV.d (D.int IntKind.i64 m), AV.d (D.int IntKind.i64 p)]), (Nm.slot (52 : Nat), AObj.arr (24 : Nat) (4 : Nat) (nat_lit 0) [[D.int IntKind.i64 (T.kind (numT m)), D.int IntKind.i64 (T.n (numT m)), D.str [], D.list []], [D.int IntKind.i64 (T.kind (numT p)), D.int IntKind.i64 (T.n (numT p)), D.str [], D.list []]])])) (by kernel_rfl)) ?_
            conv => lhs; whnf
            refine nextK_of ka ?_
            conv => lhs; whnf
            refine iteK_beq_f n13 ?_
            conv => lhs; whnf
            refine iteK_beq_f n13 ?_
            conv => lhs; whnf
            refine iteK_beq_f n14 ?_
            conv => lhs; whnf
            refine iteK_beq_f n14 ?_
            conv => lhs; whnf
            refine iteK_beq_f n13 ?_
            conv => lhs; whnf
            refine iteK_beq_f n13 ?_
            conv => lhs; whnf
            refine iteK_beq_f n13 ?_
            conv => lhs; whnf
            refine iteK_beq_f n13 ?_
            conv => lhs; whnf
            refine iteK_beq_f n14 ?_
            conv => lhs; whnf
            refine iteK_beq_f n14 ?_
            conv => lhs; whnf
            refine iteK_beq (fun h4 => ?_) (fun h4 => ?_)
            · obtain rfl : x = (6 : Int) := h4
              (exfalso; omega)
            · rw [beq_f h4]
              conv => lhs; whnf
              refine iteK_beq (fun h5 => ?_) (fun h5 => ?_)
              · obtain rfl : x = (5 : Int) := h5
                (exfalso; omega)
              · rw [beq_f h5]
                conv => lhs; whnf
                refine iteK_beq (fun h6 => ?_) (fun h6 => ?_)
                · rw [beq_t h6]
                  conv => lhs; whnf
                  refine nextK_of cb2 ?_
                  conv => lhs; whnf
                  refine Eq.trans (b := some (Res.ret (AV.agg [AV.d (D.int IntKind.i64 x), AV.d (D.int IntKind.i64 (0 : Int)), AV.d (D.str []), AV.d (D.list [[D.int IntKind.i64 (T.kind (numT m)), D.int IntKind.i64 (T.n (numT m)), D.str [], D.list []], [D.int IntKind.i64 (T.kind (numT p)), D.int IntKind.i64 (T.n (numT p)), D.str [], D.list []]])]), [])) (by kernel_rfl) ?_
                  rfl
                · rw [beq_f h6]
                  (exfalso; omega)
        · rw [dec_f h2]
          (exfalso; omega)
      · rw [dec_f h1]
        (exfalso; omega)
  | some y =>
    obtain rfl : v = y := bv hm hp rfl
    show icall Try.prog cfg (k + 3 + 1) _ _ _ = _
    have w1 : IntKind.i64.wrap (0 + 1) = 1 := by decide
    have w2 : IntKind.i64.wrap (IntKind.i64.wrap (0 + 1) + 1) = 2 := by decide
    have cy := fun b => yes48 b (k + 3) (by omega)
    rw [icall_body rfl Try.func35]
    generalize icall Try.prog cfg (k + 3) = ic at *
    as_aux_lemma =>
      obtain ⟨lp, hlp⟩ : ∃ lp, lp = lpOf Try.prog cfg ic Try.f35.ntmps 35 (k + 3) ((([] : Hp)).map (·.1)) := ⟨_, rfl⟩
      rw [← hlp]
      conv => lhs; whnf
      refine (loop_goE hlp ?_)
      conv => lhs; whnf
      refine nextK_of (holdO_of (a := St.mk [((1 : Nat), AV.ptr (Nm.slot (1 : Nat)) (0 : Nat)), ((2 : Nat), AV.ptr (Nm.slot (2 : Nat)) (0 : Nat)), ((3 : Nat), AV.ptr (Nm.slot (3 : Nat)) (0 : Nat)), ((4 : Nat), AV.ptr (Nm.slot (4 : Nat)) (0 : Nat)), ((5 : Nat), AV.d (D.bool (decide (↑(List.length es) > (0 : Int))))), ((27 : Nat), AV.d (D.list es)), ((28 : Nat), AV.d (D.int IntKind.i64 ↑(List.length es))), ((29 : Nat), AV.d (D.int IntKind.i64 (0 : Int)))] [(Nm.slot (1 : Nat), AObj.cells [AV.d (D.int IntKind.i64 x), AV.d (D.int IntKind.i64 (0 : Int)), AV.d (D.str []), AV.d (D.list es)]), (Nm.slot (2 : Nat), AObj.cells [AV.d (D.int IntKind.i64 (0 : Int)), AV.d (D.int IntKind.i64 (0 : Int)), AV.d (D.str []), AV.nilsl]), (Nm.slot (3 : Nat), AObj.cells [AV.d (D.int IntKind.i64 x), AV.d (D.int IntKind.i64 (0 : Int)), AV.d (D.str []), AV.nilsl]), (Nm.slot (4 : Nat), AObj.cells [AV.d (D.int IntKind.i64 (0 : Int)), AV.d (D.int IntKind.i64 (0 : Int))])]) (by kernel_rfl)) ?_
      conv => lhs; whnf
      refine iteK_dec (fun h1 => ?_) (fun h1 => ?_)
      · rw [dec_t h1]
        conv => lhs; whnf
        refine nextK_of (aop_ix rfl rfl rfl rfl (ixL_at' (n := 0) rfl g0 rfl)) ?_
        conv => lhs; whnf
        refine nextK_of ca ?_
        conv => lhs; whnf
        refine nextK_of ka ?_
        conv => lhs; whnf
        refine nextK_of (holdO_of (a := St.mk [((1 : Nat), AV.ptr (Nm.slot (1 : Nat)) (0 : Nat)), ((2 : Nat), AV.ptr (Nm.slot (2 : Nat)) (0 : Nat)), ((3 : Nat), AV.ptr (Nm.slot (3 : Nat)) (0 : Nat)), ((4 : Nat), AV.ptr (Nm.slot (4 : Nat)) (0 : Nat)), ((5 : Nat), AV.d (D.bool true)), ((27 : Nat), AV.d (D.list es)), ((28 : Nat), AV.d (D.int IntKind.i64 ↑(List.length es))), ((29 : Nat), AV.d (D.int IntKind.i64 (1 : Int)))] [(Nm.slot (1 : Nat), AObj.cells [AV.d (D.int IntKind.i64 x), AV.d (D.int IntKind.i64 (0 : Int)), AV.d (D.str []), AV.d (D.list es)]), (Nm.slot (2 : Nat), AObj.cells [AV.d (D.int IntKind.i64 (0 : Int)), AV.d (D.int IntKind.i64 (0 : Int)), AV.d (D.str []), AV.nilsl]), (Nm.slot (3 : Nat), AObj.cells [AV.d (D.int IntKind.i64 x), AV.d (D.int IntKind.i64 (0 : Int)), AV.d (D.str []), AV.own (Nm.slot (52 : Nat)) (nat_lit 0) (List.length [[D.int IntKind.i64 (T.kind (numT m)), D.int IntKind.i64 (T.n (numT m)), D.str [], D.list []]])]), (Nm.slot (4 : Nat), AObj.cells [AV.d (D.int IntKind.i64 m), AV.d (D.int IntKind.i64 (0 : Int))]), (Nm.slot (52 : Nat), AObj.arr (24 : Nat) (4 : Nat) (nat_lit 0) [[D.int IntKind.i64 (T.kind (numT m)), D.int IntKind.i64 (T.n (numT m)), D.str [], D.list []]])]) (by kernel_rfl)) ?_
        conv => lhs; whnf
        refine iteK_dec (fun h2 => ?_) (fun h2 => ?_)
        · rw [dec_t h2]
          conv => lhs; whnf
          refine nextK_of (aop_ix rfl rfl rfl rfl (ixL_at' (n := 1) rfl g1 rfl)) ?_
          conv => lhs; whnf
          refine nextK_of cb ?_
          conv => lhs; whnf
          refine nextK_of kb ?_
          conv => lhs; whnf
          refine nextK_of (holdO_of (a := St.mk [((1 : Nat), AV.ptr (Nm.slot (1 : Nat)) (0 : Nat)), ((2 : Nat), AV.ptr (Nm.slot (2 : Nat)) (0 : Nat)), ((3 : Nat), AV.ptr (Nm.slot (3 : Nat)) (0 : Nat)), ((4 : Nat), AV.ptr (Nm.slot (4 : Nat)) (0 : Nat)), ((5 : Nat), AV.d (D.bool true)), ((27 : Nat), AV.d (D.list es)), ((28 : Nat), AV.d (D.int IntKind.i64 ↑(List.length es))), ((29 : Nat), AV.d (D.int IntKind.i64 (2 : Int)))] [(Nm.slot (1 : Nat), AObj.cells [AV.d (D.int IntKind.i64 x), AV.d (D.int IntKind.i64 (0 : Int)), AV.d (D.str []), AV.d (D.list es)]), (Nm.slot (2 : Nat), AObj.cells [AV.d (D.int IntKind.i64 (0 : Int)), AV.d (D.int IntKind.i64 (0 : Int)), AV.d (D.str []), AV.nilsl]), (Nm.slot (3 : Nat), AObj.cells [AV.d (D.int IntKind.i64 x), AV.d (D.int IntKind.i64 (0 : Int)), AV.d (D.str []), AV.own (Nm.slot (52 : Nat)) (nat_lit 0) (List.length [[D.int IntKind.i64 (T.kind (numT m)), D.int IntKind.i64 (T.n (numT m)), D.str [], D.list []]] + List.length [[D.int IntKind.i64 (T.kind (numT p)), D.int IntKind.i64 (T.n (numT p)), D.str [], D.list []]])]), (Nm.slot (4 : Nat), AObj.cells [AV.d (D.int IntKind.i64 m), AV.d (D.int IntKind.i64 p)]), (Nm.slot (52 : Nat), AObj.arr (24 : Nat) (4 : Nat) (nat_lit 0) [[D.int IntKind.i64 (T.kind (numT m)), D.int IntKind.i64 (T.n (numT m)), D.str [], D.list []], [D.int IntKind.i64 (T.kind (numT p)), D.int IntKind.i64 (T.n (numT p)), D.str [], D.list []]])]) (by kernel_rfl)) ?_
          conv => lhs; whnf
          refine iteK_dec (fun h3 => ?_) (fun h3 => ?_)
          · rw [dec_t h3]
            (exfalso; omega)
          · rw [dec_f h3]
            conv => lhs; whnf
            refine nextK_of (holdO_of (a := (Fx.exit (0 : Nat), St.mk [((1 : Nat), AV.ptr (Nm.slot (1 : Nat)) (0 : Nat)), ((2 : Nat), AV.ptr (Nm.slot (2 : Nat)) (0 : Nat)), ((3 : Nat), AV.ptr (Nm.slot (3 : Nat)) (0 : Nat)), ((4 : Nat), AV.ptr (Nm.slot (4 : Nat)) (0 : Nat)), ((5 : Nat), AV.d (D.bool true))] [(Nm.slot (1 : Nat), AObj.cells [AV.d (D.int IntKind.i64 x), AV.d (D.int IntKind.i64 (0 : Int)), AV.d (D.str []), AV.d (D.list es)]), (Nm.slot (2 : Nat), AObj.cells [AV.d (D.int IntKind.i64 (0 : Int)), AV.d (D.int IntKind.i64 (0 : Int)), AV.d (D.str []), AV.nilsl]), (Nm.slot (3 : Nat), AObj.cells [AV.d (D.int IntKind.i64 x), AV.d (D.int IntKind.i64 (0 : Int)), AV.d (D.str []), AV.own (Nm.slot (52 : Nat)) (nat_lit 0) (List.length [[D.int IntKind.i64 (T.kind (numT m)), D.int IntKind.i64 (T.n (numT m)), D.str [], D.list []]] + List.length [[D.int IntKind.i64 (T.kind (numT p)), D.int IntKind.i64 (T.n (numT p)), D.str [], D.list []]])]), (Nm.slot (4 : Nat), AObj.cells [AV.d (D.int IntKind.i64 m), AV.d (D.int IntKind.i64 p)]), (Nm.slot (52 : Nat), AObj.arr (24 : Nat) (4 : Nat) (nat_lit 0) [[D.int IntKind.i64 (T.kind (numT m)), D.int IntKind.i64 (T.n (numT m)), D.str [], D.list []], [D.int IntKind.i64 (T.kind (numT p)), D.int IntKind.i64 (T.n (numT p)), D.str [], D.list []]])])) (by kernel_rfl)) ?_
            conv => lhs; whnf
            refine nextK_of ka ?_
            conv => lhs; whnf
            refine iteK_beq_f n13 ?_
            conv => lhs; whnf
            refine iteK_beq_f n13 ?_
            conv => lhs; whnf
            refine iteK_beq_f n14 ?_
            conv => lhs; whnf
            refine iteK_beq_f n14 ?_
            conv => lhs; whnf
            refine iteK_beq_f n13 ?_
            conv => lhs; whnf
            refine iteK_beq_f n13 ?_
            conv => lhs; whnf
            refine iteK_beq_f n13 ?_
            conv => lhs; whnf
            refine iteK_beq_f n13 ?_
            conv => lhs; whnf
            refine iteK_beq_f n14 ?_
            conv => lhs; whnf
            refine iteK_beq_f n14 ?_
            conv => lhs; whnf
            refine iteK_beq (fun h4 => ?_) (fun h4 => ?_)
            · obtain rfl : x = (6 : Int) := h4
              (exfalso; omega)
            · rw [beq_f h4]
              conv => lhs; whnf
              refine iteK_beq (fun h5 => ?_) (fun h5 => ?_)
              · obtain rfl : x = (5 : Int) := h5
                (exfalso; omega)
              · rw [beq_f h5]
                conv => lhs; whnf
                refine iteK_beq (fun h6 => ?_) (fun h6 => ?_)
                · rw [beq_t h6]
                  conv => lhs; whnf
                  refine nextK_of cb2 ?_
                  conv => lhs; whnf
                  refine Eq.trans (b := some (Res.ret (AV.agg [AV.d (D.int IntKind.i64 (T.kind v)), AV.d (D.int IntKind.i64 (T.n v)), AV.d (D.str (T.name v)), AV.d (D.list (cellsL (T.kids v)))]), [])) (by kernel_rfl) ?_
                  rfl
                · rw [beq_f h6]
                  (exfalso; omega)
        · rw [dec_f h2]
          (exfalso; omega)
      · rw [dec_f h1]
        (exfalso; omega)
theorem fold35_2FY11 (a b : T) (es : List (List D)) (hl : es.length = 2) (g0 : es[0]? = some [.int .i64 a.kind, .int .i64 a.n, .str a.name, .list (cellsL a.kids)]) (g1 : es[1]? = some [.int .i64 b.kind, .int .i64 b.n, .str b.name, .list (cellsL b.kids)]) (k : Nat) (ca : icall Try.prog cfg (k + 3) 35 [a.av] [] = some (.ret (yesT false).av, [])) (cb : icall Try.prog cfg (k + 3) 35 [b.av] [] = some (.ret (yesT true).av, [])) :
    icall Try.prog cfg (k + 4) 35 [.agg [.d (.int .i64 11), .d (.int .i64 0), .d (.str []), .d (.list es)]] [] = some (.ret (twoT 11 (yesT false) (yesT true)).av, []) := by
  have ka := knownY false (k + 3) (by omega)
  have kb := knownY true (k + 3) (by omega)
  have cb2 := both49 11 0 1 (by omega) (by omega) (k + 3) (by omega)
  show icall Try.prog cfg (k + 3 + 1) _ _ _ = _
  have w1 : IntKind.i64.wrap (0 + 1) = 1 := by decide
  have w2 : IntKind.i64.wrap (IntKind.i64.wrap (0 + 1) + 1) = 2 := by decide
  have cy := fun b => yes48 b (k + 3) (by omega)
  rw [icall_body rfl Try.func35]
  generalize icall Try.prog cfg (k + 3) = ic at *
  as_aux_lemma =>
    obtain ⟨lp, hlp⟩ : ∃ lp, lp = lpOf Try.prog cfg ic Try.f35.ntmps 35 (k + 3) ((([] : Hp)).map (·.1)) := ⟨_, rfl⟩
    rw [← hlp]
    conv => lhs; whnf
    refine (loop_goE hlp ?_)
    conv => lhs; whnf
    refine nextK_of (holdO_of (a := St.mk [((1 : Nat), AV.ptr (Nm.slot (1 : Nat)) (0 : Nat)), ((2 : Nat), AV.ptr (Nm.slot (2 : Nat)) (0 : Nat)), ((3 : Nat), AV.ptr (Nm.slot (3 : Nat)) (0 : Nat)), ((4 : Nat), AV.ptr (Nm.slot (4 : Nat)) (0 : Nat)), ((5 : Nat), AV.d (D.bool (decide (↑(List.length es) > (0 : Int))))), ((27 : Nat), AV.d (D.list es)), ((28 : Nat), AV.d (D.int IntKind.i64 ↑(List.length es))), ((29 : Nat), AV.d (D.int IntKind.i64 (0 : Int)))] [(Nm.slot (1 : Nat), AObj.cells [AV.d (D.int IntKind.i64 (11 : Int)), AV.d (D.int IntKind.i64 (0 : Int)), AV.d (D.str []), AV.d (D.list es)]), (Nm.slot (2 : Nat), AObj.cells [AV.d (D.int IntKind.i64 (0 : Int)), AV.d (D.int IntKind.i64 (0 : Int)), AV.d (D.str []), AV.nilsl]), (Nm.slot (3 : Nat), AObj.cells [AV.d (D.int IntKind.i64 (11 : Int)), AV.d (D.int IntKind.i64 (0 : Int)), AV.d (D.str []), AV.nilsl]), (Nm.slot (4 : Nat), AObj.cells [AV.d (D.int IntKind.i64 (0 : Int)), AV.d (D.int IntKind.i64 (0 : Int))])]) (by kernel_rfl)) ?_
    conv => lhs; whnf
    refine iteK_dec (fun h1 => ?_) (fun h1 => ?_)
    · rw [dec_t h1]
      conv => lhs; whnf
      refine nextK_of (aop_ix rfl rfl rfl rfl (ixL_at' (n := 0) rfl g0 rfl)) ?_
      conv => lhs; whnf
      refine nextK_of ca ?_
      conv => lhs; whnf
      refine nextK_of ka ?_
      conv => lhs; whnf
      refine nextK_of (holdO_of (a := St.mk [((1 : Nat), AV.ptr (Nm.slot (1 : Nat)) (0 : Nat)), ((2 : Nat), AV.ptr (Nm.slot (2 : Nat)) (0 : Nat)), ((3 : Nat), AV.ptr (Nm.slot (3 : Nat)) (0 : Nat)), ((4 : Nat), AV.ptr (Nm.slot (4 : Nat)) (0 : Nat)), ((5 : Nat), AV.d (D.bool true)), ((27 : Nat), AV.d (D.list es)), ((28 : Nat), AV.d (D.int IntKind.i64 ↑(List.length es))), ((29 : Nat), AV.d (D.int IntKind.i64 (1 : Int)))] [(Nm.slot (1 : Nat), AObj.cells [AV.d (D.int IntKind.i64 (11 : Int)), AV.d (D.int IntKind.i64 (0 : Int)), AV.d (D.str []), AV.d (D.list es)]), (Nm.slot (2 : Nat), AObj.cells [AV.d (D.int IntKind.i64 (0 : Int)), AV.d (D.int IntKind.i64 (0 : Int)), AV.d (D.str []), AV.nilsl]), (Nm.slot (3 : Nat), AObj.cells [AV.d (D.int IntKind.i64 (11 : Int)), AV.d (D.int IntKind.i64 (0 : Int)), AV.d (D.str []), AV.own (Nm.slot (52 : Nat)) (nat_lit 0) (List.length [[D.int IntKind.i64 (4 : Int), D.int IntKind.i64 (0 : Int), D.str [], D.list []]])]), (Nm.slot (4 : Nat), AObj.cells [AV.d (D.int IntKind.i64 (0 : Int)), AV.d (D.int IntKind.i64 (0 : Int))]), (Nm.slot (52 : Nat), AObj.arr (24 : Nat) (4 : Nat) (nat_lit 0) [[D.int IntKind.i64 (4 : Int), D.int IntKind.i64 (0 : Int), D.str [], D.list []]])]) (by kernel_rfl)) ?_
      conv => lhs; whnf
      refine iteK_dec (fun h2 => ?_) (fun h2 => ?_)
      · rw [dec_t h2]
        conv => lhs; whnf
        refine nextK_of (aop_ix rfl rfl rfl rfl (ixL_at' (n := 1) rfl g1 rfl)) ?_
        conv => lhs; whnf
        refine nextK_of cb ?_
        conv => lhs; whnf
        refine nextK_of kb ?_
        conv => lhs; whnf
        refine nextK_of (holdO_of (a := St.mk [((1 : Nat), AV.ptr (Nm.slot (1 : Nat)) (0 : Nat)), ((2 : Nat), AV.ptr (Nm.slot (2 : Nat)) (0 : Nat)), ((3 : Nat), AV.ptr (Nm.slot (3 : Nat)) (0 : Nat)), ((4 : Nat), AV.ptr (Nm.slot (4 : Nat)) (0 : Nat)), ((5 : Nat), AV.d (D.bool true)), ((27 : Nat), AV.d (D.list es)), ((28 : Nat), AV.d (D.int IntKind.i64 ↑(List.length es))), ((29 : Nat), AV.d (D.int IntKind.i64 (2 : Int)))] [(Nm.slot (1 : Nat), AObj.cells [AV.d (D.int IntKind.i64 (11 : Int)), AV.d (D.int IntKind.i64 (0 : Int)), AV.d (D.str []), AV.d (D.list es)]), (Nm.slot (2 : Nat), AObj.cells [AV.d (D.int IntKind.i64 (0 : Int)), AV.d (D.int IntKind.i64 (0 : Int)), AV.d (D.str []), AV.nilsl]), (Nm.slot (3 : Nat), AObj.cells [AV.d (D.int IntKind.i64 (11 : Int)), AV.d (D.int IntKind.i64 (0 : Int)), AV.d (D.str []), AV.own (Nm.slot (52 : Nat)) (nat_lit 0) (List.length [[D.int IntKind.i64 (4 : Int), D.int IntKind.i64 (0 : Int), D.str [], D.list []]] + List.length [[D.int IntKind.i64 (3 : Int), D.int IntKind.i64 (0 : Int), D.str [], D.list []]])]), (Nm.slot (4 : Nat), AObj.cells [AV.d (D.int IntKind.i64 (0 : Int)), AV.d (D.int IntKind.i64 (1 : Int))]), (Nm.slot (52 : Nat), AObj.arr (24 : Nat) (4 : Nat) (nat_lit 0) [[D.int IntKind.i64 (4 : Int), D.int IntKind.i64 (0 : Int), D.str [], D.list []], [D.int IntKind.i64 (3 : Int), D.int IntKind.i64 (0 : Int), D.str [], D.list []]])]) (by kernel_rfl)) ?_
        conv => lhs; whnf
        refine iteK_dec (fun h3 => ?_) (fun h3 => ?_)
        · rw [dec_t h3]
          (exfalso; omega)
        · rw [dec_f h3]
          conv => lhs; whnf
          refine nextK_of (holdO_of (a := (Fx.exit (0 : Nat), St.mk [((1 : Nat), AV.ptr (Nm.slot (1 : Nat)) (0 : Nat)), ((2 : Nat), AV.ptr (Nm.slot (2 : Nat)) (0 : Nat)), ((3 : Nat), AV.ptr (Nm.slot (3 : Nat)) (0 : Nat)), ((4 : Nat), AV.ptr (Nm.slot (4 : Nat)) (0 : Nat)), ((5 : Nat), AV.d (D.bool true))] [(Nm.slot (1 : Nat), AObj.cells [AV.d (D.int IntKind.i64 (11 : Int)), AV.d (D.int IntKind.i64 (0 : Int)), AV.d (D.str []), AV.d (D.list es)]), (Nm.slot (2 : Nat), AObj.cells [AV.d (D.int IntKind.i64 (0 : Int)), AV.d (D.int IntKind.i64 (0 : Int)), AV.d (D.str []), AV.nilsl]), (Nm.slot (3 : Nat), AObj.cells [AV.d (D.int IntKind.i64 (11 : Int)), AV.d (D.int IntKind.i64 (0 : Int)), AV.d (D.str []), AV.own (Nm.slot (52 : Nat)) (nat_lit 0) (2 : Nat)]), (Nm.slot (4 : Nat), AObj.cells [AV.d (D.int IntKind.i64 (0 : Int)), AV.d (D.int IntKind.i64 (1 : Int))]), (Nm.slot (52 : Nat), AObj.arr (24 : Nat) (4 : Nat) (nat_lit 0) [[D.int IntKind.i64 (4 : Int), D.int IntKind.i64 (0 : Int), D.str [], D.list []], [D.int IntKind.i64 (3 : Int), D.int IntKind.i64 (0 : Int), D.str [], D.list []]])])) (by kernel_rfl)) ?_
          conv => lhs; whnf
          refine nextK_of ka ?_
          conv => lhs; whnf
          refine iteK_beq (fun h4 => ?_) (fun h4 => ?_)
          · rw [beq_t h4]
            conv => lhs; whnf
            refine nextK_of cb2 ?_
            conv => lhs; whnf
            refine Eq.trans (b := some (Res.ret (AV.agg [AV.d (D.int IntKind.i64 (4 : Int)), AV.d (D.int IntKind.i64 (0 : Int)), AV.d (D.str []), AV.d (D.list [])]), [])) (by kernel_rfl) ?_
            rfl
          · rw [beq_f h4]
            (exfalso; omega)
      · rw [dec_f h2]
        (exfalso; omega)
    · rw [dec_f h1]
      (exfalso; omega)
theorem fold35_2OY (x : Int) (hx : 7 ≤ x ∧ x ≤ 14) (a b : T) (f : T) (hpf : plainK f.kind = false) (es : List (List D)) (hl : es.length = 2) (g0 : es[0]? = some [.int .i64 a.kind, .int .i64 a.n, .str a.name, .list (cellsL a.kids)]) (g1 : es[1]? = some [.int .i64 b.kind, .int .i64 b.n, .str b.name, .list (cellsL b.kids)]) (k : Nat) (ca : icall Try.prog cfg (k + 3) 35 [a.av] [] = some (.ret (f).av, [])) (cb : icall Try.prog cfg (k + 3) 35 [b.av] [] = some (.ret (yesT true).av, [])) :
    icall Try.prog cfg (k + 4) 35 [.agg [.d (.int .i64 x), .d (.int .i64 0), .d (.str []), .d (.list es)]] [] = some (.ret (twoT x (f) (yesT true)).av, []) := by
  obtain ⟨m, ka⟩ := knownO hpf (k + 3) (by omega)
  obtain ⟨p1, p2, p3⟩ := not_plain hpf
  have kb := knownY true (k + 3) (by omega)
  show icall Try.prog cfg (k + 3 + 1) _ _ _ = _
  have w1 : IntKind.i64.wrap (0 + 1) = 1 := by decide
  have w2 : IntKind.i64.wrap (IntKind.i64.wrap (0 + 1) + 1) = 2 := by decide
  have cy := fun b => yes48 b (k + 3) (by omega)
  rw [icall_body rfl Try.func35]
  generalize icall Try.prog cfg (k + 3) = ic at *
  as_aux_lemma =>
    obtain ⟨lp, hlp⟩ : ∃ lp, lp = lpOf Try.prog cfg ic Try.f35.ntmps 35 (k + 3) ((([] : Hp)).map (·.1)) := ⟨_, rfl⟩
    rw [← hlp]
    conv => lhs; whnf
    refine (loop_goE hlp ?_)
    conv => lhs; whnf
    refine nextK_of (holdO_of (a := St.mk [((1 : Nat), AV.ptr (Nm.slot (1 : Nat)) (0 : Nat)), ((2 : Nat), AV.ptr (Nm.slot (2 : Nat)) (0 : Nat)), ((3 : Nat), AV.ptr (Nm.slot (3 : Nat)) (0 : Nat)), ((4 : Nat), AV.ptr (Nm.slot (4 : Nat)) (0 : Nat)), ((5 : Nat), AV.d (D.bool (decide (↑(List.length es) > (0 : Int))))), ((27 : Nat), AV.d (D.list es)), ((28 : Nat), AV.d (D.int IntKind.i64 ↑(List.length es))), ((29 : Nat), AV.d (D.int IntKind.i64 (0 : Int)))] [(Nm.slot (1 : Nat), AObj.cells [AV.d (D.int IntKind.i64 x), AV.d (D.int IntKind.i64 (0 : Int)), AV.d (D.str []), AV.d (D.list es)]), (Nm.slot (2 : Nat), AObj.cells [AV.d (D.int IntKind.i64 (0 : Int)), AV.d (D.int IntKind.i64 (0 : Int)), AV.d (D.str []), AV.nilsl]), (Nm.slot (3 : Nat), AObj.cells [AV.d (D.int IntKind.i64 x), AV.d (D.int IntKind.i64 (0 : Int)), AV.d (D.str []), AV.nilsl]), (Nm.slot (4 : Nat), AObj.cells [AV.d (D.int IntKind.i64 (0 : Int)), AV.d (D.int IntKind.i64 (0 : Int))])]) (by kernel_rfl)) ?_
    conv => lhs; whnf
    refine iteK_dec (fun h1 => ?_) (fun h1 => ?_)
    · rw [dec_t h1]
      conv => lhs; whnf
      refine nextK_of (aop_ix rfl rfl rfl rfl (ixL_at' (n := 0) rfl g0 rfl)) ?_
      conv => lhs; whnf
      refine nextK_of ca ?_
      conv => lhs; whnf
      refine nextK_of ka ?_
      conv => lhs; whnf
      refine nextK_of (holdO_of (a := St.mk [((1 : Nat), AV.ptr (Nm.slot (1 : Nat)) (0 : Nat)), ((2 : Nat), AV.ptr (Nm.slot (2 : Nat)) (0 : Nat)), ((3 : Nat), AV.ptr (Nm.slot (3 : Nat)) (0 : Nat)), ((4 : Nat), AV.ptr (Nm.slot (4 : Nat)) (0 : Nat)), ((5 : Nat), AV.d (D.bool false)), ((27 : Nat), AV.d (D.list es)), ((28 : Nat), AV.d (D.int IntKind.i64 ↑(List.length es))), ((29 : Nat), AV.d (D.int IntKind.i64 (1 : Int)))] [(Nm.slot (1 : Nat), AObj.cells [AV.d (D.int IntKind.i64 x), AV.d (D.int IntKind.i64 (0 : Int)), AV.d (D.str []), AV.d (D.list es)]), (Nm.slot (2 : Nat), AObj.cells [AV.d (D.int IntKind.i64 (0 : Int)), AV.d (D.int IntKind.i64 (0 : Int)), AV.d (D.str []), AV.nilsl]), (Nm.slot (3 : Nat), AObj.cells [AV.d (D.int IntKind.i64 x), AV.d (D.int IntKind.i64 (0 : Int)), AV.d (D.str []), AV.own (Nm.slot (52 : Nat)) (nat_lit 0) (List.length [[D.int IntKind.i64 (T.kind f), D.int IntKind.i64 (T.n f), D.str (T.name f), D.list (cellsL (T.kids f))]])]), (Nm.slot (4 : Nat), AObj.cells [AV.d (D.int IntKind.i64 m), AV.d (D.int IntKind.i64 (0 : Int))]), (Nm.slot (52 : Nat), AObj.arr (24 : Nat) (4 : Nat) (nat_lit 0) [[D.int IntKind.i64 (T.kind f), D.int IntKind.i64 (T.n f), D.str (T.name f), D.list (cellsL (T.kids f))]])]) (by kernel_rfl)) ?_
      conv => lhs; whnf
      refine iteK_dec (fun h2 => ?_) (fun h2 => ?_)
      · rw [dec_t h2]
        conv => lhs; whnf
        refine nextK_of (aop_ix rfl rfl rfl rfl (ixL_at' (n := 1) rfl g1 rfl)) ?_
        conv => lhs; whnf
        refine nextK_of cb ?_
        conv => lhs; whnf
        refine nextK_of kb ?_
        conv => lhs; whnf
        refine nextK_of (holdO_of (a := St.mk [((1 : Nat), AV.ptr (Nm.slot (1 : Nat)) (0 : Nat)), ((2 : Nat), AV.ptr (Nm.slot (2 : Nat)) (0 : Nat)), ((3 : Nat), AV.ptr (Nm.slot (3 : Nat)) (0 : Nat)), ((4 : Nat), AV.ptr (Nm.slot (4 : Nat)) (0 : Nat)), ((5 : Nat), AV.d (D.bool false)), ((27 : Nat), AV.d (D.list es)), ((28 : Nat), AV.d (D.int IntKind.i64 ↑(List.length es))), ((29 : Nat), AV.d (D.int IntKind.i64 (2 : Int)))] [(Nm.slot (1 : Nat), AObj.cells [AV.d (D.int IntKind.i64 x), AV.d (D.int IntKind.i64 (0 : Int)), AV.d (D.str []), AV.d (D.list es)]), (Nm.slot (2 : Nat), AObj.cells [AV.d (D.int IntKind.i64 (0 : Int)), AV.d (D.int IntKind.i64 (0 : Int)), AV.d (D.str []), AV.nilsl]), (Nm.slot (3 : Nat), AObj.cells [AV.d (D.int IntKind.i64 x), AV.d (D.int IntKind.i64 (0 : Int)), AV.d (D.str []), AV.own (Nm.slot (52 : Nat)) (nat_lit 0) (List.length [[D.int IntKind.i64 (T.kind f), D.int IntKind.i64 (T.n f), D.str (T.name f), D.list (cellsL (T.kids f))]] + List.length [[D.int IntKind.i64 (3 : Int), D.int IntKind.i64 (0 : Int), D.str [], D.list []]])]), (Nm.slot (4 : Nat), AObj.cells [AV.d (D.int IntKind.i64 m), AV.d (D.int IntKind.i64 (1 : Int))]), (Nm.slot (52 : Nat), AObj.arr (24 : Nat) (4 : Nat) (nat_lit 0) [[D.int IntKind.i64 (T.kind f), D.int IntKind.i64 (T.n f), D.str (T.name f), D.list (cellsL (T.kids f))], [D.int IntKind.i64 (3 : Int), D.int IntKind.i64 (0 : Int), D.str [], D.list []]])]) (by kernel_rfl)) ?_
        conv => lhs; whnf
        refine iteK_dec (fun h3 => ?_) (fun h3 => ?_)
        · rw [dec_t h3]
          (exfalso; omega)
        · rw [dec_f h3]
          conv => lhs; whnf
          refine nextK_of (holdO_of (a := (Fx.exit (0 : Nat), St.mk [((1 : Nat), AV.ptr (Nm.slot (1 : Nat)) (0 : Nat)), ((2 : Nat), AV.ptr (Nm.slot (2 : Nat)) (0 : Nat)), ((3 : Nat), AV.ptr (Nm.slot (3 : Nat)) (0 : Nat)), ((4 : Nat), AV.ptr (Nm.slot (4 : Nat)) (0 : Nat)), ((5 : Nat), AV.d (D.bool false))] [(Nm.slot (1 : Nat), AObj.cells [AV.d (D.int IntKind.i64 x), AV.d (D.int IntKind.i64 (0 : Int)), AV.d (D.str []), AV.d (D.list es)]), (Nm.slot (2 : Nat), AObj.cells [AV.d (D.int IntKind.i64 (0 : Int)), AV.d (D.int IntKind.i64 (0 : Int)), AV.d (D.str []), AV.nilsl]), (Nm.slot (3 : Nat), AObj.cells [AV.d (D.int IntKind.i64 x), AV.d (D.int IntKind.i64 (0 : Int)), AV.d (D.str []), AV.own (Nm.slot (52 : Nat)) (nat_lit 0) (List.length [[D.int IntKind.i64 (T.kind f), D.int IntKind.i64 (T.n f), D.str (T.name f), D.list (cellsL (T.kids f))]] + List.length [[D.int IntKind.i64 (3 : Int), D.int IntKind.i64 (0 : Int), D.str [], D.list []]])]), (Nm.slot (4 : Nat), AObj.cells [AV.d (D.int IntKind.i64 m), AV.d (D.int IntKind.i64 (1 : Int))]), (Nm.slot (52 : Nat), AObj.arr (24 : Nat) (4 : Nat) (nat_lit 0) [[D.int IntKind.i64 (T.kind f), D.int IntKind.i64 (T.n f), D.str (T.name f), D.list (cellsL (T.kids f))], [D.int IntKind.i64 (3 : Int), D.int IntKind.i64 (0 : Int), D.str [], D.list []]])])) (by kernel_rfl)) ?_
          conv => lhs; whnf
          refine nextK_of ka ?_
          conv => lhs; whnf
          refine iteK_beq (fun h4 => ?_) (fun h4 => ?_)
          · obtain rfl : x = (13 : Int) := h4
            conv => lhs; whnf
            refine Eq.trans (b := some (Res.ret (AV.agg [AV.d (D.int IntKind.i64 (13 : Int)), AV.d (D.int IntKind.i64 (0 : Int)), AV.d (D.str []), AV.d (D.list [[D.int IntKind.i64 (T.kind f), D.int IntKind.i64 (T.n f), D.str (T.name f), D.list (cellsL (T.kids f))], [D.int IntKind.i64 (3 : Int), D.int IntKind.i64 (0 : Int), D.str [], D.list []]])]), [])) (by kernel_rfl) ?_
            (rw [t13c p3 p2, mk2_av]; rfl)
          · rw [beq_f h4]
            conv => lhs; whnf
            refine iteK_beq (fun h5 => ?_) (fun h5 => ?_)
            · obtain rfl : x = (14 : Int) := h5
              conv => lhs; whnf
              refine Eq.trans (b := some (Res.ret (AV.agg [AV.d (D.int IntKind.i64 (14 : Int)), AV.d (D.int IntKind.i64 (0 : Int)), AV.d (D.str []), AV.d (D.list [[D.int IntKind.i64 (T.kind f), D.int IntKind.i64 (T.n f), D.str (T.name f), D.list (cellsL (T.kids f))], [D.int IntKind.i64 (3 : Int), D.int IntKind.i64 (0 : Int), D.str [], D.list []]])]), [])) (by kernel_rfl) ?_
              (rw [t14c p2 p3, mk2_av]; rfl)
            · rw [beq_f h5]
              conv => lhs; whnf
              refine iteK_beq_f h4 ?_
              conv => lhs; whnf
              refine iteK_beq_f h4 ?_
              conv => lhs; whnf
              refine iteK_beq_f h4 ?_
              conv => lhs; whnf
              refine iteK_beq_f h4 ?_
              conv => lhs; whnf
              refine iteK_beq_f h5 ?_
              conv => lhs; whnf
              refine iteK_beq_f h5 ?_
              conv => lhs; whnf
              refine iteK_beq (fun h6 => ?_) (fun h6 => ?_)
              · obtain rfl : x = (6 : Int) := h6
                (exfalso; omega)
              · rw [beq_f h6]
                conv => lhs; whnf
                refine iteK_beq (fun h7 => ?_) (fun h7 => ?_)
                · obtain rfl : x = (5 : Int) := h7
                  (exfalso; omega)
                · rw [beq_f h7]
                  conv => lhs; whnf
                  refine Eq.trans (b := some (Res.ret (AV.agg [AV.d (D.int IntKind.i64 x), AV.d (D.int IntKind.i64 (0 : Int)), AV.d (D.str []), AV.d (D.list [[D.int IntKind.i64 (T.kind f), D.int IntKind.i64 (T.n f), D.str (T.name f), D.list (cellsL (T.kids f))], [D.int IntKind.i64 (3 : Int), D.int IntKind.i64 (0 : Int), D.str [], D.list []]])]), [])) (by kernel_rfl) ?_
                  (rw [tN (by assumption) (by assumption) (.inl (by assumption)), mk2_av]; rfl)
      · rw [dec_f h2]
        (exfalso; omega)
    · rw [dec_f h1]
      (exfalso; omega)
end Go.Rx08
