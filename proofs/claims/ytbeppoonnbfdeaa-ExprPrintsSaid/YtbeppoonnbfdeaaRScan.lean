/- A part of the proof of the law: what functions of the program come to, walked by Rx, or plain facts on it. -/
import Derived.Test.YtbeppoonnbfdeaaRLexR3
import Derived.Test.YtbeppoonnbfdeaaRSpecSc
open Go Go.Rx Go.Proofs Go.Rx07 Go.RxTree
set_option maxRecDepth 1000000
set_option maxHeartbeats 4000000
set_option linter.unusedVariables false
set_option linter.unusedSimpArgs false
namespace Go.Rx07
theorem is37 (w : W) (c : UInt8) (k : Nat) (hk : 0 < k) : icall Try.prog cfg k 37 [.agg [.d (.int .i64 w.k), .d (.str w.t), .d (.int .i64 w.n), .d (.int .i64 w.at')], .d (.str [c])] [] = some (.ret (.d (.bool (w.sg == [c]))), []) := by
  obtain ⟨k, rfl⟩ : ∃ j, k = j + 1 := ⟨k - 1, by omega⟩
  unfold W.sg
  obtain ⟨wk, wt, wn, wa⟩ := w
  by_cases h3 : wk = 3
  · subst h3
    rw [if_pos rfl]
    rw [icall_body rfl Try.func37]
    obtain ⟨lp, hlp⟩ : ∃ lp, lp = lpOf Try.prog cfg (icall Try.prog cfg k) Try.f37.ntmps 37 k (([] : Hp).map (·.1)) := ⟨_, rfl⟩
    rw [← hlp]
    conv => lhs; whnf
    refine Eq.trans (b := some (Res.ret (AV.d (D.bool ((W.mk (3 : Int) wt wn wa).t == [c]))), [])) (by kernel_rfl) ?_
    rfl
  · rw [if_neg h3]
    rw [icall_body rfl Try.func37]
    obtain ⟨lp, hlp⟩ : ∃ lp, lp = lpOf Try.prog cfg (icall Try.prog cfg k) Try.f37.ntmps 37 k (([] : Hp).map (·.1)) := ⟨_, rfl⟩
    rw [← hlp]
    conv => lhs; whnf
    refine iteK_beq_f h3 ?_
    conv => lhs; whnf
    refine iteK_beq_f h3 ?_
    conv => lhs; whnf
    refine iteK_beq_f h3 ?_
    conv => lhs; whnf
    refine iteK_beq_f h3 ?_
    conv => lhs; whnf
    refine iteK_beq_f h3 ?_
    conv => lhs; whnf
    refine Eq.trans (b := some (Res.ret (AV.d (D.bool false)), [])) (by kernel_rfl) ?_
    rfl
theorem kind39 (w : W) (k : Nat) (hk : 0 < k) : icall Try.prog cfg k 39 [.agg [.d (.int .i64 w.k), .d (.str w.t), .d (.int .i64 w.n), .d (.int .i64 w.at')]] [] = some (.ret (.d (.int .i64 (kindW w))), []) := by
  obtain ⟨k, rfl⟩ : ∃ j, k = j + 1 := ⟨k - 1, by omega⟩
  unfold kindW W.sg
  obtain ⟨wk, wt, wn, wa⟩ := w
  by_cases h3 : wk = 3
  · subst h3
    rw [if_pos rfl]
    dsimp only
    unfold twoK
    rw [icall_body rfl Try.func39]
    obtain ⟨lp, hlp⟩ : ∃ lp, lp = lpOf Try.prog cfg (icall Try.prog cfg k) Try.f39.ntmps 39 k (([] : Hp).map (·.1)) := ⟨_, rfl⟩
    rw [← hlp]
    conv => lhs; whnf
    refine iteK_beq (fun h1 => ?_) (fun h1 => ?_)
    · obtain rfl : wt = [(124 : UInt8)] := h1
      conv => lhs; whnf
      refine Eq.trans (b := some (Res.ret (AV.d (D.int IntKind.i64 (14 : Int))), [])) (by kernel_rfl) ?_
      rfl
    · rw [beq_f h1]
      conv => lhs; whnf
      refine iteK_beq (fun h2 => ?_) (fun h2 => ?_)
      · obtain rfl : wt = [(38 : UInt8)] := h2
        conv => lhs; whnf
        refine Eq.trans (b := some (Res.ret (AV.d (D.int IntKind.i64 (13 : Int))), [])) (by kernel_rfl) ?_
        rfl
      · rw [beq_f h2]
        conv => lhs; whnf
        refine iteK_beq (fun h3 => ?_) (fun h3 => ?_)
        · obtain rfl : wt = [(61 : UInt8)] := h3
          conv => lhs; whnf
          refine Eq.trans (b := some (Res.ret (AV.d (D.int IntKind.i64 (11 : Int))), [])) (by kernel_rfl) ?_
          rfl
        · rw [beq_f h3]
          conv => lhs; whnf
          refine iteK_beq (fun h4 => ?_) (fun h4 => ?_)
          · obtain rfl : wt = [(60 : UInt8)] := h4
            conv => lhs; whnf
            refine Eq.trans (b := some (Res.ret (AV.d (D.int IntKind.i64 (12 : Int))), [])) (by kernel_rfl) ?_
            rfl
          · rw [beq_f h4]
            conv => lhs; whnf
            refine iteK_beq (fun h5 => ?_) (fun h5 => ?_)
            · obtain rfl : wt = [(43 : UInt8)] := h5
              conv => lhs; whnf
              refine Eq.trans (b := some (Res.ret (AV.d (D.int IntKind.i64 (7 : Int))), [])) (by kernel_rfl) ?_
              rfl
            · rw [beq_f h5]
              conv => lhs; whnf
              refine iteK_beq (fun h6 => ?_) (fun h6 => ?_)
              · obtain rfl : wt = [(45 : UInt8)] := h6
                conv => lhs; whnf
                refine Eq.trans (b := some (Res.ret (AV.d (D.int IntKind.i64 (8 : Int))), [])) (by kernel_rfl) ?_
                rfl
              · rw [beq_f h6]
                conv => lhs; whnf
                refine iteK_beq (fun h7 => ?_) (fun h7 => ?_)
                · obtain rfl : wt = [(42 : UInt8)] := h7
                  conv => lhs; whnf
                  refine Eq.trans (b := some (Res.ret (AV.d (D.int IntKind.i64 (9 : Int))), [])) (by kernel_rfl) ?_
                  rfl
                · rw [beq_f h7]
                  conv => lhs; whnf
                  refine iteK_beq (fun h8 => ?_) (fun h8 => ?_)
                  · obtain rfl : wt = [(47 : UInt8)] := h8
                    conv => lhs; whnf
                    refine Eq.trans (b := some (Res.ret (AV.d (D.int IntKind.i64 (10 : Int))), [])) (by kernel_rfl) ?_
                    rfl
                  · rw [beq_f h8]
                    conv => lhs; whnf
                    refine Eq.trans (b := some (Res.ret (AV.d (D.int IntKind.i64 (0 : Int))), [])) (by kernel_rfl) ?_
                    (exact ret_i (by simp [*]))
  · rw [if_neg h3]
    rw [icall_body rfl Try.func39]
    obtain ⟨lp, hlp⟩ : ∃ lp, lp = lpOf Try.prog cfg (icall Try.prog cfg k) Try.f39.ntmps 39 k (([] : Hp).map (·.1)) := ⟨_, rfl⟩
    rw [← hlp]
    conv => lhs; whnf
    refine iteK_bne_t h3 ?_
    conv => lhs; whnf
    refine Eq.trans (b := some (Res.ret (AV.d (D.int IntKind.i64 (0 : Int))), [])) (by kernel_rfl) ?_
    rfl
theorem level38 (x : Int) (k : Nat) (hk : 0 < k) : icall Try.prog cfg k 38 [.d (.int .i64 x)] [] = some (.ret (.d (.int .i64 (levelK x))), []) := by
  obtain ⟨k, rfl⟩ : ∃ j, k = j + 1 := ⟨k - 1, by omega⟩
  unfold levelK
  rw [icall_body rfl Try.func38]
  obtain ⟨lp, hlp⟩ : ∃ lp, lp = lpOf Try.prog cfg (icall Try.prog cfg k) Try.f38.ntmps 38 k (([] : Hp).map (·.1)) := ⟨_, rfl⟩
  rw [← hlp]
  conv => lhs; whnf
  refine iteK_beq (fun h1 => ?_) (fun h1 => ?_)
  · obtain rfl : x = (14 : Int) := h1
    conv => lhs; whnf
    refine Eq.trans (b := some (Res.ret (AV.d (D.int IntKind.i64 (1 : Int))), [])) (by kernel_rfl) ?_
    rfl
  · rw [beq_f h1]
    conv => lhs; whnf
    refine iteK_beq (fun h2 => ?_) (fun h2 => ?_)
    · obtain rfl : x = (13 : Int) := h2
      conv => lhs; whnf
      refine Eq.trans (b := some (Res.ret (AV.d (D.int IntKind.i64 (2 : Int))), [])) (by kernel_rfl) ?_
      rfl
    · rw [beq_f h2]
      conv => lhs; whnf
      refine iteK_beq (fun h3 => ?_) (fun h3 => ?_)
      · obtain rfl : x = (11 : Int) := h3
        conv => lhs; whnf
        refine Eq.trans (b := some (Res.ret (AV.d (D.int IntKind.i64 (3 : Int))), [])) (by kernel_rfl) ?_
        rfl
      · rw [beq_f h3]
        conv => lhs; whnf
        refine iteK_beq (fun h4 => ?_) (fun h4 => ?_)
        · obtain rfl : x = (12 : Int) := h4
          conv => lhs; whnf
          refine Eq.trans (b := some (Res.ret (AV.d (D.int IntKind.i64 (3 : Int))), [])) (by kernel_rfl) ?_
          rfl
        · rw [beq_f h4]
          conv => lhs; whnf
          refine iteK_beq (fun h5 => ?_) (fun h5 => ?_)
          · obtain rfl : x = (7 : Int) := h5
            conv => lhs; whnf
            refine Eq.trans (b := some (Res.ret (AV.d (D.int IntKind.i64 (4 : Int))), [])) (by kernel_rfl) ?_
            rfl
          · rw [beq_f h5]
            conv => lhs; whnf
            refine iteK_beq (fun h6 => ?_) (fun h6 => ?_)
            · obtain rfl : x = (8 : Int) := h6
              conv => lhs; whnf
              refine Eq.trans (b := some (Res.ret (AV.d (D.int IntKind.i64 (4 : Int))), [])) (by kernel_rfl) ?_
              rfl
            · rw [beq_f h6]
              conv => lhs; whnf
              refine iteK_beq (fun h7 => ?_) (fun h7 => ?_)
              · obtain rfl : x = (9 : Int) := h7
                conv => lhs; whnf
                refine Eq.trans (b := some (Res.ret (AV.d (D.int IntKind.i64 (5 : Int))), [])) (by kernel_rfl) ?_
                rfl
              · rw [beq_f h7]
                conv => lhs; whnf
                refine iteK_beq (fun h8 => ?_) (fun h8 => ?_)
                · obtain rfl : x = (10 : Int) := h8
                  conv => lhs; whnf
                  refine Eq.trans (b := some (Res.ret (AV.d (D.int IntKind.i64 (5 : Int))), [])) (by kernel_rfl) ?_
                  rfl
                · rw [beq_f h8]
                  conv => lhs; whnf
                  refine Eq.trans (b := some (Res.ret (AV.d (D.int IntKind.i64 (6 : Int))), [])) (by kernel_rfl) ?_
                  (exact ret_i (by simp [*]))
/-- Levels that bind more are closed. -/
theorem popL (j : Nat) (l : List W) (e u z at' kk dp : Int) (lv : List Int) (n : Nat) (es : List (List D)) {lp : LP} (hlp : lp = lpOf Try.prog cfg (icall Try.prog cfg j) Try.f24.ntmps 24 j (([] : Hp).map (·.1))) : ∀ (q : List Int) (lf : Nat) (st : St), q.length < lf → q.length ≤ 100000 → prune [] [0, 1, 4, 5, 6, 8, 9, 11, 13, 14] st = some ⟨[(0, .d (.list (l.map W.cells))), (1, .d (.int .i64 e)), (4, .ptr (.slot 4) 0), (5, .own (.slot 18) 0 n), (6, .d (.int .i64 u)), (8, .d (.int .i64 z)), (9, .d (.int .i64 at')), (11, .ptr (.slot 11) 0), (13, .d (.int .i64 kk)), (14, .d (.list (lvC q)))], [(.slot 4, .cells [.d (.int .i64 0), .d (.int .i64 0)]), (.slot 18, .arr 63 2 0 es), (.slot 11, .cells [.d (.int .i64 dp), .d (.list (lvC lv))])]⟩ →
    loopK Try.prog cfg (icall Try.prog cfg j) lp Try.f24.ntmps 24 [] (bodyAt Try.f24 30) lf st (exitP [] (some [0, 1, 4, 5, 6, 8, 9, 11, 13, 14])) = some (.exit 2, ⟨[(0, .d (.list (l.map W.cells))), (1, .d (.int .i64 e)), (4, .ptr (.slot 4) 0), (5, .own (.slot 18) 0 n), (6, .d (.int .i64 u)), (8, .d (.int .i64 z)), (9, .d (.int .i64 at')), (11, .ptr (.slot 11) 0), (13, .d (.int .i64 kk)), (14, .d (.list (lvC (q.dropWhile fun a => decide (a > kk)))))], [(.slot 4, .cells [.d (.int .i64 0), .d (.int .i64 0)]), (.slot 18, .arr 63 2 0 es), (.slot 11, .cells [.d (.int .i64 dp), .d (.list (lvC lv))])]⟩) := by
  intro q
  induction q with
  | nil =>
    intro lf st hlf hq hp
    obtain ⟨lf, rfl⟩ : ∃ n, lf = n + 1 := ⟨lf - 1, by omega⟩
    refine loop_step hp ?_
    have hend : ¬ ((lvC []).length : Int) > 0 := by simp [lvC]
    conv => lhs; whnf
    refine Eq.trans (b := some (Fx.exit (2 : Nat), St.mk [((0 : Nat), AV.d (D.list (List.map W.cells l))), ((1 : Nat), AV.d (D.int IntKind.i64 e)), ((4 : Nat), AV.ptr (Nm.slot (4 : Nat)) (0 : Nat)), ((5 : Nat), AV.own (Nm.slot (18 : Nat)) (nat_lit 0) n), ((6 : Nat), AV.d (D.int IntKind.i64 u)), ((8 : Nat), AV.d (D.int IntKind.i64 z)), ((9 : Nat), AV.d (D.int IntKind.i64 at')), ((11 : Nat), AV.ptr (Nm.slot (11 : Nat)) (0 : Nat)), ((13 : Nat), AV.d (D.int IntKind.i64 kk)), ((14 : Nat), AV.d (D.list []))] [(Nm.slot (4 : Nat), AObj.cells [AV.d (D.int IntKind.i64 (0 : Int)), AV.d (D.int IntKind.i64 (0 : Int))]), (Nm.slot (18 : Nat), AObj.arr (63 : Nat) (2 : Nat) (nat_lit 0) es), (Nm.slot (11 : Nat), AObj.cells [AV.d (D.int IntKind.i64 dp), AV.d (D.list (lvC lv))])])) (by kernel_rfl) ?_
    rfl
  | cons a q ih =>
    intro lf st hlf hq hp
    obtain ⟨lf, rfl⟩ : ∃ n, lf = n + 1 := ⟨lf - 1, by omega⟩
    simp only [List.length_cons] at hlf hq
    refine loop_step hp ?_
    have hln : (lvC (a :: q)).length = q.length + 1 := by rw [lvC_len]; rfl
    have hend : ((lvC (a :: q)).length : Int) > 0 := by omega
    have hz : IntKind.i64.wrap (((lvC (a :: q)).length : Int) - 1) = (q.length : Int) := by rw [hln, Go.Rx.wrap_i64 (by omega) (by omega)]; omega
    have hg := lvC_last a q
    have ht : ((lvC (a :: q)).take q.length).drop 0 = lvC q := by rw [List.drop_zero, lvC_take]
    have aop_s := fun {P : Program} {dst : Nat} {ρ : Operand → AV} {H : Hp} {t e : TypeId} {x : Operand} {hi : Option Operand} (hx : ρ x = .d (.list (lvC (a :: q)))) (ht' : P.underlying t = some (.slice e)) (hs : sizeT P e = some 1) (hh : intV (hi.map ρ) = some (some (IntKind.i64.wrap (((lvC (a :: q)).length : Int) - 1)))) => by
      have := aop_slice (dst := dst) (lo := none) (mx := none) (H := H) (a := 0) (b := q.length) hx ht' hs rfl hh rfl (lvC_all _) (bnds_to hz (by omega)); rw [ht] at this; exact this
    by_cases ha : a > kk
    · rw [List.dropWhile_cons, if_pos (by simpa using ha)]
      have hih := ih lf
      generalize lvC (a :: q) = L at *
      conv => lhs; whnf
      refine iteK_dec_t hend ?_
      conv => lhs; whnf
      refine iteK_dec_t hend ?_
      conv => lhs; whnf
      refine iteK_dec_t hend ?_
      conv => lhs; whnf
      refine iteK_dec_t hend ?_
      conv => lhs; whnf
      refine iteK_dec_t hend ?_
      conv => lhs; whnf
      refine nextK_of (aop_ix rfl rfl rfl rfl (ixL_at' (n := q.length) hz hg rfl)) ?_
      conv => lhs; whnf
      refine iteK_dec_t hend ?_
      conv => lhs; whnf
      refine iteK_dec_t hend ?_
      conv => lhs; whnf
      refine iteK_dec_t hend ?_
      conv => lhs; whnf
      refine iteK_dec_t hend ?_
      conv => lhs; whnf
      refine iteK_dec_t ha ?_
      conv => lhs; whnf
      refine nextK_of (aop_s rfl rfl rfl rfl) ?_
      conv => lhs; whnf
      refine Eq.trans (hih _ (by omega) (by omega) rfl) ?_
      rfl
    · rw [List.dropWhile_cons, if_neg (by simpa using ha)]
      generalize lvC (a :: q) = L at *
      conv => lhs; whnf
      refine iteK_dec_t hend ?_
      conv => lhs; whnf
      refine iteK_dec_t hend ?_
      conv => lhs; whnf
      refine iteK_dec_t hend ?_
      conv => lhs; whnf
      refine iteK_dec_t hend ?_
      conv => lhs; whnf
      refine iteK_dec_t hend ?_
      conv => lhs; whnf
      refine nextK_of (aop_ix rfl rfl rfl rfl (ixL_at' (n := q.length) hz hg rfl)) ?_
      conv => lhs; whnf
      refine iteK_dec_t hend ?_
      conv => lhs; whnf
      refine iteK_dec_t hend ?_
      conv => lhs; whnf
      refine iteK_dec_t hend ?_
      conv => lhs; whnf
      refine iteK_dec_t hend ?_
      conv => lhs; whnf
      refine iteK_dec_f ha ?_
      conv => lhs; whnf
      refine Eq.trans (b := some (Fx.exit (2 : Nat), St.mk [((0 : Nat), AV.d (D.list (List.map W.cells l))), ((1 : Nat), AV.d (D.int IntKind.i64 e)), ((4 : Nat), AV.ptr (Nm.slot (4 : Nat)) (0 : Nat)), ((5 : Nat), AV.own (Nm.slot (18 : Nat)) (nat_lit 0) n), ((6 : Nat), AV.d (D.int IntKind.i64 u)), ((8 : Nat), AV.d (D.int IntKind.i64 z)), ((9 : Nat), AV.d (D.int IntKind.i64 at')), ((11 : Nat), AV.ptr (Nm.slot (11 : Nat)) (0 : Nat)), ((13 : Nat), AV.d (D.int IntKind.i64 kk)), ((14 : Nat), AV.d (D.list L))] [(Nm.slot (4 : Nat), AObj.cells [AV.d (D.int IntKind.i64 (0 : Int)), AV.d (D.int IntKind.i64 (0 : Int))]), (Nm.slot (18 : Nat), AObj.arr (63 : Nat) (2 : Nat) (nat_lit 0) es), (Nm.slot (11 : Nat), AObj.cells [AV.d (D.int IntKind.i64 dp), AV.d (D.list (lvC lv))])])) (by kernel_rfl) ?_
      rfl
theorem lenM {n : Nat} (h : n ≤ 50000000) : (n + 1) * (8 + 1) ≤ lim := by unfold lim; omega
theorem lenS {n : Nat} (h : n ≤ 50000000) : (n + 1) * (32 + 1) ≤ lim := by unfold lim; omega
theorem lenL {n : Nat} (h : n ≤ 50000000) : n * (8 + 1) ≤ lim := by unfold lim; omega
theorem t_deep (j : Nat) (hj : 100 < j) (l : List W) (e u z dp : Int) (lv : List Int) (rest : List (Int × List Int)) (es : List (List D)) (hes : es.take (rest.length + 1) = stC ((dp, lv) :: rest)) (hrl : rest.length ≤ 100000) (i : Nat) (hz : z = (i : Int)) (hi : i ≤ l.length) (hl1 : l.length ≤ 100000) (w : W) (hw : l[i]? = some w) (hd : (IntKind.i64.wrap (IntKind.i64.wrap (dp + ((lvC lv).length : Int)) + u)) > 16) {lp : LP} (hlp : lp = lpOf Try.prog cfg (icall Try.prog cfg j) Try.f24.ntmps 24 j (([] : Hp).map (·.1))) (lf : Nat) (st : St) (hp : prune [] [0, 1, 4, 5, 6, 7, 8] st = some ⟨[(0, .d (.list (l.map W.cells))), (1, .d (.int .i64 e)), (4, .ptr (.slot 4) 0), (5, .own (.slot 18) 0 (rest.length + 1)), (6, .d (.int .i64 u)), (7, .d (.bool true)), (8, .d (.int .i64 z))], [(.slot 4, .cells [.d (.int .i64 0), .d (.int .i64 0)]), (.slot 18, .arr 63 2 0 es)]⟩) : loopK Try.prog cfg (icall Try.prog cfg j) lp Try.f24.ntmps 24 [] (bodyAt Try.f24 5) (lf + 1) st (exitP [] (some [1, 4, 5, 7])) = some (.ret, ⟨[(1, .d (.int .i64 e)), (4, .ptr (.slot 4) 0), (5, .own (.slot 18) 0 (rest.length + 1)), (7, .d (.bool true))], [(.slot 4, .cells [.d (.int .i64 6), .d (.int .i64 w.at')]), (.slot 18, .arr 63 2 0 es)]⟩) := by
  have hll : (l.map W.cells).length = l.length := List.length_map ..
  have htop := stC_top hes
  have hle := stC_le hes
  have htk : (es.take (rest.length + 1)).length = rest.length + 1 := by rw [List.length_take]; omega
  have hzt : IntKind.i64.wrap (((es.take (rest.length + 1)).length : Int) - 1) = (rest.length : Int) := by rw [htk, Go.Rx.wrap_i64 (by omega) (by omega)]; omega
  have hlv := lvC_len lv
  have hil := (List.getElem?_eq_some_iff.1 hw).1
  have hend : z ≤ ((l.map W.cells).length : Int) := by omega
  have hend2 : z < ((l.map W.cells).length : Int) := by omega
  have cm := is37 w 45 j (by omega)
  have cn := is37 w 33 j (by omega)
  have co := is37 w 40 j (by omega)
  have cc := is37 w 41 j (by omega)
  refine loop_step hp ?_
  conv => lhs; whnf
  refine iteK_dec_t hend ?_
  conv => lhs; whnf
  refine iteK_dec_t hend2 ?_
  conv => lhs; whnf
  refine nextK_of (aop_ix rfl rfl rfl rfl (ixL_at' (n := i) hz (word_get hw) rfl)) ?_
  conv => lhs; whnf
  refine nextK_of (aop_ixO (i := rest.length) rfl rfl rfl rfl rfl hzt (by omega)) ?_
  conv => lhs; whnf
  refine nextK_of (aop_ldE rfl rfl htop rfl rfl) ?_
  conv => lhs; whnf
  refine iteK_dec_t hd ?_
  conv => lhs; whnf
  refine Eq.trans (b := some (Fx.ret, St.mk [((1 : Nat), AV.d (D.int IntKind.i64 e)), ((4 : Nat), AV.ptr (Nm.slot (4 : Nat)) (0 : Nat)), ((5 : Nat), AV.own (Nm.slot (18 : Nat)) (nat_lit 0) (List.length rest + (1 : Nat))), ((7 : Nat), AV.d (D.bool true))] [(Nm.slot (4 : Nat), AObj.cells [AV.d (D.int IntKind.i64 (6 : Int)), AV.d (D.int IntKind.i64 w.at')]), (Nm.slot (18 : Nat), AObj.arr (63 : Nat) (2 : Nat) (nat_lit 0) es)])) (by kernel_rfl) ?_
  rfl
theorem t_minus (j : Nat) (hj : 100 < j) (l : List W) (e u z dp : Int) (lv : List Int) (rest : List (Int × List Int)) (es : List (List D)) (hes : es.take (rest.length + 1) = stC ((dp, lv) :: rest)) (hrl : rest.length ≤ 100000) (i : Nat) (hz : z = (i : Int)) (hi : i ≤ l.length) (hl1 : l.length ≤ 100000) (w : W) (hw : l[i]? = some w) (hd : ¬ (IntKind.i64.wrap (IntKind.i64.wrap (dp + ((lvC lv).length : Int)) + u)) > 16) (hs : w.sg = [45]) {lp : LP} (hlp : lp = lpOf Try.prog cfg (icall Try.prog cfg j) Try.f24.ntmps 24 j (([] : Hp).map (·.1))) (lf : Nat) (st : St) (hp : prune [] [0, 1, 4, 5, 6, 7, 8] st = some ⟨[(0, .d (.list (l.map W.cells))), (1, .d (.int .i64 e)), (4, .ptr (.slot 4) 0), (5, .own (.slot 18) 0 (rest.length + 1)), (6, .d (.int .i64 u)), (7, .d (.bool true)), (8, .d (.int .i64 z))], [(.slot 4, .cells [.d (.int .i64 0), .d (.int .i64 0)]), (.slot 18, .arr 63 2 0 es)]⟩) (r : Option (Fx × St))
    (hih : ∀ st', prune [] [0, 1, 4, 5, 6, 7, 8] st' = some ⟨[(0, .d (.list (l.map W.cells))), (1, .d (.int .i64 e)), (4, .ptr (.slot 4) 0), (5, .own (.slot 18) 0 (rest.length + 1)), (6, .d (.int .i64 (IntKind.i64.wrap (u + 1)))), (7, .d (.bool true)), (8, .d (.int .i64 (IntKind.i64.wrap (z + 1))))], [(.slot 4, .cells [.d (.int .i64 0), .d (.int .i64 0)]), (.slot 18, .arr 63 2 0 es)]⟩ → loopK Try.prog cfg (icall Try.prog cfg j) lp Try.f24.ntmps 24 [] (bodyAt Try.f24 5) lf st' (exitP [] (some [1, 4, 5, 7])) = r) : loopK Try.prog cfg (icall Try.prog cfg j) lp Try.f24.ntmps 24 [] (bodyAt Try.f24 5) (lf + 1) st (exitP [] (some [1, 4, 5, 7])) = r := by
  have hll : (l.map W.cells).length = l.length := List.length_map ..
  have htop := stC_top hes
  have hle := stC_le hes
  have htk : (es.take (rest.length + 1)).length = rest.length + 1 := by rw [List.length_take]; omega
  have hzt : IntKind.i64.wrap (((es.take (rest.length + 1)).length : Int) - 1) = (rest.length : Int) := by rw [htk, Go.Rx.wrap_i64 (by omega) (by omega)]; omega
  have hlv := lvC_len lv
  have hil := (List.getElem?_eq_some_iff.1 hw).1
  have hend : z ≤ ((l.map W.cells).length : Int) := by omega
  have hend2 : z < ((l.map W.cells).length : Int) := by omega
  have cm := is37 w 45 j (by omega)
  have cn := is37 w 33 j (by omega)
  have co := is37 w 40 j (by omega)
  have cc := is37 w 41 j (by omega)
  rw [hs] at cm
  refine loop_step hp ?_
  conv => lhs; whnf
  refine iteK_dec_t hend ?_
  conv => lhs; whnf
  refine iteK_dec_t hend2 ?_
  conv => lhs; whnf
  refine nextK_of (aop_ix rfl rfl rfl rfl (ixL_at' (n := i) hz (word_get hw) rfl)) ?_
  conv => lhs; whnf
  refine nextK_of (aop_ixO (i := rest.length) rfl rfl rfl rfl rfl hzt (by omega)) ?_
  conv => lhs; whnf
  refine nextK_of (aop_ldE rfl rfl htop rfl rfl) ?_
  conv => lhs; whnf
  refine iteK_dec_f hd ?_
  conv => lhs; whnf
  refine nextK_of cm ?_
  conv => lhs; whnf
  refine Eq.trans (hih _ rfl) ?_
  rfl
theorem t_not (j : Nat) (hj : 100 < j) (l : List W) (e u z dp : Int) (lv : List Int) (rest : List (Int × List Int)) (es : List (List D)) (hes : es.take (rest.length + 1) = stC ((dp, lv) :: rest)) (hrl : rest.length ≤ 100000) (i : Nat) (hz : z = (i : Int)) (hi : i ≤ l.length) (hl1 : l.length ≤ 100000) (w : W) (hw : l[i]? = some w) (hd : ¬ (IntKind.i64.wrap (IntKind.i64.wrap (dp + ((lvC lv).length : Int)) + u)) > 16) (hs : w.sg = [33]) {lp : LP} (hlp : lp = lpOf Try.prog cfg (icall Try.prog cfg j) Try.f24.ntmps 24 j (([] : Hp).map (·.1))) (lf : Nat) (st : St) (hp : prune [] [0, 1, 4, 5, 6, 7, 8] st = some ⟨[(0, .d (.list (l.map W.cells))), (1, .d (.int .i64 e)), (4, .ptr (.slot 4) 0), (5, .own (.slot 18) 0 (rest.length + 1)), (6, .d (.int .i64 u)), (7, .d (.bool true)), (8, .d (.int .i64 z))], [(.slot 4, .cells [.d (.int .i64 0), .d (.int .i64 0)]), (.slot 18, .arr 63 2 0 es)]⟩) (r : Option (Fx × St))
    (hih : ∀ st', prune [] [0, 1, 4, 5, 6, 7, 8] st' = some ⟨[(0, .d (.list (l.map W.cells))), (1, .d (.int .i64 e)), (4, .ptr (.slot 4) 0), (5, .own (.slot 18) 0 (rest.length + 1)), (6, .d (.int .i64 (IntKind.i64.wrap (u + 1)))), (7, .d (.bool true)), (8, .d (.int .i64 (IntKind.i64.wrap (z + 1))))], [(.slot 4, .cells [.d (.int .i64 0), .d (.int .i64 0)]), (.slot 18, .arr 63 2 0 es)]⟩ → loopK Try.prog cfg (icall Try.prog cfg j) lp Try.f24.ntmps 24 [] (bodyAt Try.f24 5) lf st' (exitP [] (some [1, 4, 5, 7])) = r) : loopK Try.prog cfg (icall Try.prog cfg j) lp Try.f24.ntmps 24 [] (bodyAt Try.f24 5) (lf + 1) st (exitP [] (some [1, 4, 5, 7])) = r := by
  have hll : (l.map W.cells).length = l.length := List.length_map ..
  have htop := stC_top hes
  have hle := stC_le hes
  have htk : (es.take (rest.length + 1)).length = rest.length + 1 := by rw [List.length_take]; omega
  have hzt : IntKind.i64.wrap (((es.take (rest.length + 1)).length : Int) - 1) = (rest.length : Int) := by rw [htk, Go.Rx.wrap_i64 (by omega) (by omega)]; omega
  have hlv := lvC_len lv
  have hil := (List.getElem?_eq_some_iff.1 hw).1
  have hend : z ≤ ((l.map W.cells).length : Int) := by omega
  have hend2 : z < ((l.map W.cells).length : Int) := by omega
  have cm := is37 w 45 j (by omega)
  have cn := is37 w 33 j (by omega)
  have co := is37 w 40 j (by omega)
  have cc := is37 w 41 j (by omega)
  rw [hs] at cm cn
  refine loop_step hp ?_
  conv => lhs; whnf
  refine iteK_dec_t hend ?_
  conv => lhs; whnf
  refine iteK_dec_t hend2 ?_
  conv => lhs; whnf
  refine nextK_of (aop_ix rfl rfl rfl rfl (ixL_at' (n := i) hz (word_get hw) rfl)) ?_
  conv => lhs; whnf
  refine nextK_of (aop_ixO (i := rest.length) rfl rfl rfl rfl rfl hzt (by omega)) ?_
  conv => lhs; whnf
  refine nextK_of (aop_ldE rfl rfl htop rfl rfl) ?_
  conv => lhs; whnf
  refine iteK_dec_f hd ?_
  conv => lhs; whnf
  refine nextK_of cm ?_
  conv => lhs; whnf
  refine nextK_of cn ?_
  conv => lhs; whnf
  refine Eq.trans (hih _ rfl) ?_
  rfl
theorem t_open (j : Nat) (hj : 100 < j) (l : List W) (e u z dp : Int) (lv : List Int) (rest : List (Int × List Int)) (es : List (List D)) (hes : es.take (rest.length + 1) = stC ((dp, lv) :: rest)) (hrl : rest.length ≤ 100000) (i : Nat) (hz : z = (i : Int)) (hi : i ≤ l.length) (hl1 : l.length ≤ 100000) (w : W) (hw : l[i]? = some w) (hd : ¬ (IntKind.i64.wrap (IntKind.i64.wrap (dp + ((lvC lv).length : Int)) + u)) > 16) (hs : w.sg = [40]) {lp : LP} (hlp : lp = lpOf Try.prog cfg (icall Try.prog cfg j) Try.f24.ntmps 24 j (([] : Hp).map (·.1))) (lf : Nat) (st : St) (hp : prune [] [0, 1, 4, 5, 6, 7, 8] st = some ⟨[(0, .d (.list (l.map W.cells))), (1, .d (.int .i64 e)), (4, .ptr (.slot 4) 0), (5, .own (.slot 18) 0 (rest.length + 1)), (6, .d (.int .i64 u)), (7, .d (.bool true)), (8, .d (.int .i64 z))], [(.slot 4, .cells [.d (.int .i64 0), .d (.int .i64 0)]), (.slot 18, .arr 63 2 0 es)]⟩) (r : Option (Fx × St))
    (hih : ∀ st', prune [] [0, 1, 4, 5, 6, 7, 8] st' = some ⟨[(0, .d (.list (l.map W.cells))), (1, .d (.int .i64 e)), (4, .ptr (.slot 4) 0), (5, .own (.slot 18) 0 (rest.length + 1 + 1)), (6, .d (.int .i64 0)), (7, .d (.bool true)), (8, .d (.int .i64 (IntKind.i64.wrap (z + 1))))], [(.slot 4, .cells [.d (.int .i64 0), .d (.int .i64 0)]), (.slot 18, .arr 63 2 0 (es.take (rest.length + 1) ++ [[.int .i64 (IntKind.i64.wrap ((IntKind.i64.wrap (IntKind.i64.wrap (dp + ((lvC lv).length : Int)) + u)) + 1)), .list []]]))]⟩ → loopK Try.prog cfg (icall Try.prog cfg j) lp Try.f24.ntmps 24 [] (bodyAt Try.f24 5) lf st' (exitP [] (some [1, 4, 5, 7])) = r) : loopK Try.prog cfg (icall Try.prog cfg j) lp Try.f24.ntmps 24 [] (bodyAt Try.f24 5) (lf + 1) st (exitP [] (some [1, 4, 5, 7])) = r := by
  have hll : (l.map W.cells).length = l.length := List.length_map ..
  have htop := stC_top hes
  have hle := stC_le hes
  have htk : (es.take (rest.length + 1)).length = rest.length + 1 := by rw [List.length_take]; omega
  have hzt : IntKind.i64.wrap (((es.take (rest.length + 1)).length : Int) - 1) = (rest.length : Int) := by rw [htk, Go.Rx.wrap_i64 (by omega) (by omega)]; omega
  have hlv := lvC_len lv
  have hil := (List.getElem?_eq_some_iff.1 hw).1
  have hend : z ≤ ((l.map W.cells).length : Int) := by omega
  have hend2 : z < ((l.map W.cells).length : Int) := by omega
  have cm := is37 w 45 j (by omega)
  have cn := is37 w 33 j (by omega)
  have co := is37 w 40 j (by omega)
  have cc := is37 w 41 j (by omega)
  rw [hs] at cm cn co
  refine loop_step hp ?_
  conv => lhs; whnf
  refine iteK_dec_t hend ?_
  conv => lhs; whnf
  refine iteK_dec_t hend2 ?_
  conv => lhs; whnf
  refine nextK_of (aop_ix rfl rfl rfl rfl (ixL_at' (n := i) hz (word_get hw) rfl)) ?_
  conv => lhs; whnf
  refine nextK_of (aop_ixO (i := rest.length) rfl rfl rfl rfl rfl hzt (by omega)) ?_
  conv => lhs; whnf
  refine nextK_of (aop_ldE rfl rfl htop rfl rfl) ?_
  conv => lhs; whnf
  refine iteK_dec_f hd ?_
  conv => lhs; whnf
  refine nextK_of cm ?_
  conv => lhs; whnf
  refine nextK_of cn ?_
  conv => lhs; whnf
  refine nextK_of co ?_
  conv => lhs; whnf
  refine nextK_of (aop_app rfl rfl rfl rfl rfl rfl rfl rfl rfl rfl rfl rfl (lenS (by omega))) ?_
  conv => lhs; whnf
  refine Eq.trans (hih _ rfl) ?_
  rfl
theorem t_bad (j : Nat) (hj : 100 < j) (l : List W) (e u z dp : Int) (lv : List Int) (rest : List (Int × List Int)) (es : List (List D)) (hes : es.take (rest.length + 1) = stC ((dp, lv) :: rest)) (hrl : rest.length ≤ 100000) (i : Nat) (hz : z = (i : Int)) (hi : i ≤ l.length) (hl1 : l.length ≤ 100000) (w : W) (hw : l[i]? = some w) (hd : ¬ (IntKind.i64.wrap (IntKind.i64.wrap (dp + ((lvC lv).length : Int)) + u)) > 16) (s1 : w.sg ≠ [45]) (s2 : w.sg ≠ [33]) (s3 : w.sg ≠ [40]) (k1 : w.k ≠ 1) (k2 : w.k ≠ 2) {lp : LP} (hlp : lp = lpOf Try.prog cfg (icall Try.prog cfg j) Try.f24.ntmps 24 j (([] : Hp).map (·.1))) (lf : Nat) (st : St) (hp : prune [] [0, 1, 4, 5, 6, 7, 8] st = some ⟨[(0, .d (.list (l.map W.cells))), (1, .d (.int .i64 e)), (4, .ptr (.slot 4) 0), (5, .own (.slot 18) 0 (rest.length + 1)), (6, .d (.int .i64 u)), (7, .d (.bool true)), (8, .d (.int .i64 z))], [(.slot 4, .cells [.d (.int .i64 0), .d (.int .i64 0)]), (.slot 18, .arr 63 2 0 es)]⟩)  : loopK Try.prog cfg (icall Try.prog cfg j) lp Try.f24.ntmps 24 [] (bodyAt Try.f24 5) (lf + 1) st (exitP [] (some [1, 4, 5, 7])) = some (.ret, ⟨[(1, .d (.int .i64 e)), (4, .ptr (.slot 4) 0), (5, .own (.slot 18) 0 (rest.length + 1)), (7, .d (.bool true))], [(.slot 4, .cells [.d (.int .i64 3), .d (.int .i64 w.at')]), (.slot 18, .arr 63 2 0 es)]⟩) := by
  have hll : (l.map W.cells).length = l.length := List.length_map ..
  have htop := stC_top hes
  have hle := stC_le hes
  have htk : (es.take (rest.length + 1)).length = rest.length + 1 := by rw [List.length_take]; omega
  have hzt : IntKind.i64.wrap (((es.take (rest.length + 1)).length : Int) - 1) = (rest.length : Int) := by rw [htk, Go.Rx.wrap_i64 (by omega) (by omega)]; omega
  have hlv := lvC_len lv
  have hil := (List.getElem?_eq_some_iff.1 hw).1
  have hend : z ≤ ((l.map W.cells).length : Int) := by omega
  have hend2 : z < ((l.map W.cells).length : Int) := by omega
  have cm := is37 w 45 j (by omega)
  have cn := is37 w 33 j (by omega)
  have co := is37 w 40 j (by omega)
  have cc := is37 w 41 j (by omega)
  rw [beq_f s1] at cm
  rw [beq_f s2] at cn
  rw [beq_f s3] at co
  refine loop_step hp ?_
  conv => lhs; whnf
  refine iteK_dec_t hend ?_
  conv => lhs; whnf
  refine iteK_dec_t hend2 ?_
  conv => lhs; whnf
  refine nextK_of (aop_ix rfl rfl rfl rfl (ixL_at' (n := i) hz (word_get hw) rfl)) ?_
  conv => lhs; whnf
  refine nextK_of (aop_ixO (i := rest.length) rfl rfl rfl rfl rfl hzt (by omega)) ?_
  conv => lhs; whnf
  refine nextK_of (aop_ldE rfl rfl htop rfl rfl) ?_
  conv => lhs; whnf
  refine iteK_dec_f hd ?_
  conv => lhs; whnf
  refine nextK_of cm ?_
  conv => lhs; whnf
  refine nextK_of cn ?_
  conv => lhs; whnf
  refine nextK_of co ?_
  conv => lhs; whnf
  refine iteK_bne_t k1 ?_
  conv => lhs; whnf
  refine iteK_bne_t k1 ?_
  conv => lhs; whnf
  refine iteK_bne_t k1 ?_
  conv => lhs; whnf
  refine iteK_bne_t k1 ?_
  conv => lhs; whnf
  refine iteK_bne_t k2 ?_
  conv => lhs; whnf
  refine Eq.trans (b := some (Fx.ret, St.mk [((1 : Nat), AV.d (D.int IntKind.i64 e)), ((4 : Nat), AV.ptr (Nm.slot (4 : Nat)) (0 : Nat)), ((5 : Nat), AV.own (Nm.slot (18 : Nat)) (nat_lit 0) (List.length rest + (1 : Nat))), ((7 : Nat), AV.d (D.bool true))] [(Nm.slot (4 : Nat), AObj.cells [AV.d (D.int IntKind.i64 (3 : Int)), AV.d (D.int IntKind.i64 w.at')]), (Nm.slot (18 : Nat), AObj.arr (63 : Nat) (2 : Nat) (nat_lit 0) es)])) (by kernel_rfl) ?_
  rfl
theorem t_word (j : Nat) (hj : 100 < j) (l : List W) (e u z dp : Int) (lv : List Int) (rest : List (Int × List Int)) (es : List (List D)) (hes : es.take (rest.length + 1) = stC ((dp, lv) :: rest)) (hrl : rest.length ≤ 100000) (i : Nat) (hz : z = (i : Int)) (hi : i ≤ l.length) (hl1 : l.length ≤ 100000) (w : W) (hw : l[i]? = some w) (hd : ¬ (IntKind.i64.wrap (IntKind.i64.wrap (dp + ((lvC lv).length : Int)) + u)) > 16) (s1 : w.sg ≠ [45]) (s2 : w.sg ≠ [33]) (s3 : w.sg ≠ [40]) (k1 : w.k = 1 ∨ w.k = 2) {lp : LP} (hlp : lp = lpOf Try.prog cfg (icall Try.prog cfg j) Try.f24.ntmps 24 j (([] : Hp).map (·.1))) (lf : Nat) (st : St) (hp : prune [] [0, 1, 4, 5, 6, 7, 8] st = some ⟨[(0, .d (.list (l.map W.cells))), (1, .d (.int .i64 e)), (4, .ptr (.slot 4) 0), (5, .own (.slot 18) 0 (rest.length + 1)), (6, .d (.int .i64 u)), (7, .d (.bool true)), (8, .d (.int .i64 z))], [(.slot 4, .cells [.d (.int .i64 0), .d (.int .i64 0)]), (.slot 18, .arr 63 2 0 es)]⟩) (r : Option (Fx × St))
    (hih : ∀ st', prune [] [0, 1, 4, 5, 6, 7, 8] st' = some ⟨[(0, .d (.list (l.map W.cells))), (1, .d (.int .i64 e)), (4, .ptr (.slot 4) 0), (5, .own (.slot 18) 0 (rest.length + 1)), (6, .d (.int .i64 0)), (7, .d (.bool false)), (8, .d (.int .i64 (IntKind.i64.wrap (z + 1))))], [(.slot 4, .cells [.d (.int .i64 0), .d (.int .i64 0)]), (.slot 18, .arr 63 2 0 es)]⟩ → loopK Try.prog cfg (icall Try.prog cfg j) lp Try.f24.ntmps 24 [] (bodyAt Try.f24 5) lf st' (exitP [] (some [1, 4, 5, 7])) = r) : loopK Try.prog cfg (icall Try.prog cfg j) lp Try.f24.ntmps 24 [] (bodyAt Try.f24 5) (lf + 1) st (exitP [] (some [1, 4, 5, 7])) = r := by
  have hll : (l.map W.cells).length = l.length := List.length_map ..
  have htop := stC_top hes
  have hle := stC_le hes
  have htk : (es.take (rest.length + 1)).length = rest.length + 1 := by rw [List.length_take]; omega
  have hzt : IntKind.i64.wrap (((es.take (rest.length + 1)).length : Int) - 1) = (rest.length : Int) := by rw [htk, Go.Rx.wrap_i64 (by omega) (by omega)]; omega
  have hlv := lvC_len lv
  have hil := (List.getElem?_eq_some_iff.1 hw).1
  have hend : z ≤ ((l.map W.cells).length : Int) := by omega
  have hend2 : z < ((l.map W.cells).length : Int) := by omega
  have cm := is37 w 45 j (by omega)
  have cn := is37 w 33 j (by omega)
  have co := is37 w 40 j (by omega)
  have cc := is37 w 41 j (by omega)
  rw [beq_f s1] at cm
  rw [beq_f s2] at cn
  rw [beq_f s3] at co
  refine loop_step hp ?_
  conv => lhs; whnf
  refine iteK_dec_t hend ?_
  conv => lhs; whnf
  refine iteK_dec_t hend2 ?_
  conv => lhs; whnf
  refine nextK_of (aop_ix rfl rfl rfl rfl (ixL_at' (n := i) hz (word_get hw) rfl)) ?_
  conv => lhs; whnf
  refine nextK_of (aop_ixO (i := rest.length) rfl rfl rfl rfl rfl hzt (by omega)) ?_
  conv => lhs; whnf
  refine nextK_of (aop_ldE rfl rfl htop rfl rfl) ?_
  conv => lhs; whnf
  refine iteK_dec_f hd ?_
  conv => lhs; whnf
  refine nextK_of cm ?_
  conv => lhs; whnf
  refine nextK_of cn ?_
  conv => lhs; whnf
  refine nextK_of co ?_
  conv => lhs; whnf
  refine iteK_bne (fun h1 => ?_) (fun h1 => ?_)
  · rw [bne_t h1]
    conv => lhs; whnf
    refine iteK_bne (fun h2 => ?_) (fun h2 => ?_)
    · rw [bne_t h2]
      (exfalso; omega)
    · rw [bne_f h2]
      conv => lhs; whnf
      refine Eq.trans (hih _ rfl) ?_
      rfl
  · rw [bne_f h1]
    conv => lhs; whnf
    refine Eq.trans (hih _ rfl) ?_
    rfl
theorem e_deep (j : Nat) (hj : 100 < j) (l : List W) (e u z dp : Int) (lv : List Int) (rest : List (Int × List Int)) (es : List (List D)) (hes : es.take (rest.length + 1) = stC ((dp, lv) :: rest)) (hrl : rest.length ≤ 100000) (i : Nat) (hz : z = (i : Int)) (hi : i ≤ l.length) (hl1 : l.length ≤ 100000) (hie : i = l.length) (hd : (IntKind.i64.wrap (IntKind.i64.wrap (dp + ((lvC lv).length : Int)) + u)) > 16) {lp : LP} (hlp : lp = lpOf Try.prog cfg (icall Try.prog cfg j) Try.f24.ntmps 24 j (([] : Hp).map (·.1))) (lf : Nat) (st : St) (hp : prune [] [0, 1, 4, 5, 6, 7, 8] st = some ⟨[(0, .d (.list (l.map W.cells))), (1, .d (.int .i64 e)), (4, .ptr (.slot 4) 0), (5, .own (.slot 18) 0 (rest.length + 1)), (6, .d (.int .i64 u)), (7, .d (.bool true)), (8, .d (.int .i64 z))], [(.slot 4, .cells [.d (.int .i64 0), .d (.int .i64 0)]), (.slot 18, .arr 63 2 0 es)]⟩)  : loopK Try.prog cfg (icall Try.prog cfg j) lp Try.f24.ntmps 24 [] (bodyAt Try.f24 5) (lf + 1) st (exitP [] (some [1, 4, 5, 7])) = some (.ret, ⟨[(1, .d (.int .i64 e)), (4, .ptr (.slot 4) 0), (5, .own (.slot 18) 0 (rest.length + 1)), (7, .d (.bool true))], [(.slot 4, .cells [.d (.int .i64 6), .d (.int .i64 e)]), (.slot 18, .arr 63 2 0 es)]⟩) := by
  have hll : (l.map W.cells).length = l.length := List.length_map ..
  have htop := stC_top hes
  have hle := stC_le hes
  have htk : (es.take (rest.length + 1)).length = rest.length + 1 := by rw [List.length_take]; omega
  have hzt : IntKind.i64.wrap (((es.take (rest.length + 1)).length : Int) - 1) = (rest.length : Int) := by rw [htk, Go.Rx.wrap_i64 (by omega) (by omega)]; omega
  have hlv := lvC_len lv
  have hend : z ≤ ((l.map W.cells).length : Int) := by omega
  have hend2 : ¬ z < ((l.map W.cells).length : Int) := by omega
  refine loop_step hp ?_
  conv => lhs; whnf
  refine iteK_dec_t hend ?_
  conv => lhs; whnf
  refine iteK_dec_f hend2 ?_
  conv => lhs; whnf
  refine nextK_of (aop_ixO (i := rest.length) rfl rfl rfl rfl rfl hzt (by omega)) ?_
  conv => lhs; whnf
  refine nextK_of (aop_ldE rfl rfl htop rfl rfl) ?_
  conv => lhs; whnf
  refine iteK_dec_t hd ?_
  conv => lhs; whnf
  refine Eq.trans (b := some (Fx.ret, St.mk [((1 : Nat), AV.d (D.int IntKind.i64 e)), ((4 : Nat), AV.ptr (Nm.slot (4 : Nat)) (0 : Nat)), ((5 : Nat), AV.own (Nm.slot (18 : Nat)) (nat_lit 0) (List.length rest + (1 : Nat))), ((7 : Nat), AV.d (D.bool true))] [(Nm.slot (4 : Nat), AObj.cells [AV.d (D.int IntKind.i64 (6 : Int)), AV.d (D.int IntKind.i64 e)]), (Nm.slot (18 : Nat), AObj.arr (63 : Nat) (2 : Nat) (nat_lit 0) es)])) (by kernel_rfl) ?_
  rfl
theorem e_bad (j : Nat) (hj : 100 < j) (l : List W) (e u z dp : Int) (lv : List Int) (rest : List (Int × List Int)) (es : List (List D)) (hes : es.take (rest.length + 1) = stC ((dp, lv) :: rest)) (hrl : rest.length ≤ 100000) (i : Nat) (hz : z = (i : Int)) (hi : i ≤ l.length) (hl1 : l.length ≤ 100000) (hie : i = l.length) (hd : ¬ (IntKind.i64.wrap (IntKind.i64.wrap (dp + ((lvC lv).length : Int)) + u)) > 16) {lp : LP} (hlp : lp = lpOf Try.prog cfg (icall Try.prog cfg j) Try.f24.ntmps 24 j (([] : Hp).map (·.1))) (lf : Nat) (st : St) (hp : prune [] [0, 1, 4, 5, 6, 7, 8] st = some ⟨[(0, .d (.list (l.map W.cells))), (1, .d (.int .i64 e)), (4, .ptr (.slot 4) 0), (5, .own (.slot 18) 0 (rest.length + 1)), (6, .d (.int .i64 u)), (7, .d (.bool true)), (8, .d (.int .i64 z))], [(.slot 4, .cells [.d (.int .i64 0), .d (.int .i64 0)]), (.slot 18, .arr 63 2 0 es)]⟩)  : loopK Try.prog cfg (icall Try.prog cfg j) lp Try.f24.ntmps 24 [] (bodyAt Try.f24 5) (lf + 1) st (exitP [] (some [1, 4, 5, 7])) = some (.ret, ⟨[(1, .d (.int .i64 e)), (4, .ptr (.slot 4) 0), (5, .own (.slot 18) 0 (rest.length + 1)), (7, .d (.bool true))], [(.slot 4, .cells [.d (.int .i64 3), .d (.int .i64 e)]), (.slot 18, .arr 63 2 0 es)]⟩) := by
  have hll : (l.map W.cells).length = l.length := List.length_map ..
  have htop := stC_top hes
  have hle := stC_le hes
  have htk : (es.take (rest.length + 1)).length = rest.length + 1 := by rw [List.length_take]; omega
  have hzt : IntKind.i64.wrap (((es.take (rest.length + 1)).length : Int) - 1) = (rest.length : Int) := by rw [htk, Go.Rx.wrap_i64 (by omega) (by omega)]; omega
  have hlv := lvC_len lv
  have hend : z ≤ ((l.map W.cells).length : Int) := by omega
  have hend2 : ¬ z < ((l.map W.cells).length : Int) := by omega
  have cm : icall Try.prog cfg j 37 [.agg [.d (.int .i64 0), .d (.str []), .d (.int .i64 0), .d (.int .i64 0)], .d (.str [45])] [] = some (.ret (.d (.bool false)), []) := is37 ⟨0, [], 0, 0⟩ 45 j (by omega)
  have cn : icall Try.prog cfg j 37 [.agg [.d (.int .i64 0), .d (.str []), .d (.int .i64 0), .d (.int .i64 0)], .d (.str [33])] [] = some (.ret (.d (.bool false)), []) := is37 ⟨0, [], 0, 0⟩ 33 j (by omega)
  have co : icall Try.prog cfg j 37 [.agg [.d (.int .i64 0), .d (.str []), .d (.int .i64 0), .d (.int .i64 0)], .d (.str [40])] [] = some (.ret (.d (.bool false)), []) := is37 ⟨0, [], 0, 0⟩ 40 j (by omega)
  refine loop_step hp ?_
  conv => lhs; whnf
  refine iteK_dec_t hend ?_
  conv => lhs; whnf
  refine iteK_dec_f hend2 ?_
  conv => lhs; whnf
  refine nextK_of (aop_ixO (i := rest.length) rfl rfl rfl rfl rfl hzt (by omega)) ?_
  conv => lhs; whnf
  refine nextK_of (aop_ldE rfl rfl htop rfl rfl) ?_
  conv => lhs; whnf
  refine iteK_dec_f hd ?_
  conv => lhs; whnf
  refine nextK_of cm ?_
  conv => lhs; whnf
  refine nextK_of cn ?_
  conv => lhs; whnf
  refine nextK_of co ?_
  conv => lhs; whnf
  refine Eq.trans (b := some (Fx.ret, St.mk [((1 : Nat), AV.d (D.int IntKind.i64 e)), ((4 : Nat), AV.ptr (Nm.slot (4 : Nat)) (0 : Nat)), ((5 : Nat), AV.own (Nm.slot (18 : Nat)) (nat_lit 0) (List.length rest + (1 : Nat))), ((7 : Nat), AV.d (D.bool true))] [(Nm.slot (4 : Nat), AObj.cells [AV.d (D.int IntKind.i64 (3 : Int)), AV.d (D.int IntKind.i64 e)]), (Nm.slot (18 : Nat), AObj.arr (63 : Nat) (2 : Nat) (nat_lit 0) es)])) (by kernel_rfl) ?_
  rfl
theorem e_end (j : Nat) (hj : 100 < j) (l : List W) (e u z dp : Int) (lv : List Int) (rest : List (Int × List Int)) (es : List (List D)) (hes : es.take (rest.length + 1) = stC ((dp, lv) :: rest)) (hrl : rest.length ≤ 100000) (i : Nat) (hz : z = (i : Int)) (hi : i ≤ l.length) (hl1 : l.length ≤ 100000) (hie : i = l.length)  {lp : LP} (hlp : lp = lpOf Try.prog cfg (icall Try.prog cfg j) Try.f24.ntmps 24 j (([] : Hp).map (·.1))) (lf : Nat) (st : St) (hp : prune [] [0, 1, 4, 5, 6, 7, 8] st = some ⟨[(0, .d (.list (l.map W.cells))), (1, .d (.int .i64 e)), (4, .ptr (.slot 4) 0), (5, .own (.slot 18) 0 (rest.length + 1)), (6, .d (.int .i64 u)), (7, .d (.bool false)), (8, .d (.int .i64 z))], [(.slot 4, .cells [.d (.int .i64 0), .d (.int .i64 0)]), (.slot 18, .arr 63 2 0 es)]⟩)  : loopK Try.prog cfg (icall Try.prog cfg j) lp Try.f24.ntmps 24 [] (bodyAt Try.f24 5) (lf + 1) st (exitP [] (some [1, 4, 5, 7])) = some (.exit 0, ⟨[(1, .d (.int .i64 e)), (4, .ptr (.slot 4) 0), (5, .own (.slot 18) 0 (rest.length + 1)), (7, .d (.bool false))], [(.slot 4, .cells [.d (.int .i64 0), .d (.int .i64 0)]), (.slot 18, .arr 63 2 0 es)]⟩) := by
  have hll : (l.map W.cells).length = l.length := List.length_map ..
  have htop := stC_top hes
  have hle := stC_le hes
  have htk : (es.take (rest.length + 1)).length = rest.length + 1 := by rw [List.length_take]; omega
  have hzt : IntKind.i64.wrap (((es.take (rest.length + 1)).length : Int) - 1) = (rest.length : Int) := by rw [htk, Go.Rx.wrap_i64 (by omega) (by omega)]; omega
  have hlv := lvC_len lv
  have hend : z ≤ ((l.map W.cells).length : Int) := by omega
  have hend2 : ¬ z < ((l.map W.cells).length : Int) := by omega
  have heq : z = ((l.map W.cells).length : Int) := by omega
  refine loop_step hp ?_
  conv => lhs; whnf
  refine iteK_dec_t hend ?_
  conv => lhs; whnf
  refine iteK_dec_f hend2 ?_
  conv => lhs; whnf
  refine nextK_of (aop_ixO (i := rest.length) rfl rfl rfl rfl rfl hzt (by omega)) ?_
  conv => lhs; whnf
  refine nextK_of (aop_ldE rfl rfl htop rfl rfl) ?_
  conv => lhs; whnf
  refine iteK_beq_t heq ?_
  conv => lhs; whnf
  refine Eq.trans (b := some (Fx.exit (0 : Nat), St.mk [((1 : Nat), AV.d (D.int IntKind.i64 e)), ((4 : Nat), AV.ptr (Nm.slot (4 : Nat)) (0 : Nat)), ((5 : Nat), AV.own (Nm.slot (18 : Nat)) (nat_lit 0) (List.length rest + (1 : Nat))), ((7 : Nat), AV.d (D.bool false))] [(Nm.slot (4 : Nat), AObj.cells [AV.d (D.int IntKind.i64 (0 : Int)), AV.d (D.int IntKind.i64 (0 : Int))]), (Nm.slot (18 : Nat), AObj.arr (63 : Nat) (2 : Nat) (nat_lit 0) es)])) (by kernel_rfl) ?_
  rfl
theorem f_close (j : Nat) (hj : 100 < j) (l : List W) (e u z dp : Int) (lv : List Int) (rest : List (Int × List Int)) (es : List (List D)) (hes : es.take (rest.length + 1) = stC ((dp, lv) :: rest)) (hrl : rest.length ≤ 100000) (i : Nat) (hz : z = (i : Int)) (hi : i ≤ l.length) (hl1 : l.length ≤ 100000) (w : W) (hw : l[i]? = some w) (hs : w.sg = [41]) (hr : 0 < rest.length) {lp : LP} (hlp : lp = lpOf Try.prog cfg (icall Try.prog cfg j) Try.f24.ntmps 24 j (([] : Hp).map (·.1))) (lf : Nat) (st : St) (hp : prune [] [0, 1, 4, 5, 6, 7, 8] st = some ⟨[(0, .d (.list (l.map W.cells))), (1, .d (.int .i64 e)), (4, .ptr (.slot 4) 0), (5, .own (.slot 18) 0 (rest.length + 1)), (6, .d (.int .i64 u)), (7, .d (.bool false)), (8, .d (.int .i64 z))], [(.slot 4, .cells [.d (.int .i64 0), .d (.int .i64 0)]), (.slot 18, .arr 63 2 0 es)]⟩) (r : Option (Fx × St))
    (hih : ∀ st', prune [] [0, 1, 4, 5, 6, 7, 8] st' = some ⟨[(0, .d (.list (l.map W.cells))), (1, .d (.int .i64 e)), (4, .ptr (.slot 4) 0), (5, .own (.slot 18) 0 rest.length), (6, .d (.int .i64 u)), (7, .d (.bool false)), (8, .d (.int .i64 (IntKind.i64.wrap (z + 1))))], [(.slot 4, .cells [.d (.int .i64 0), .d (.int .i64 0)]), (.slot 18, .arr 63 2 0 es)]⟩ → loopK Try.prog cfg (icall Try.prog cfg j) lp Try.f24.ntmps 24 [] (bodyAt Try.f24 5) lf st' (exitP [] (some [1, 4, 5, 7])) = r) : loopK Try.prog cfg (icall Try.prog cfg j) lp Try.f24.ntmps 24 [] (bodyAt Try.f24 5) (lf + 1) st (exitP [] (some [1, 4, 5, 7])) = r := by
  have hll : (l.map W.cells).length = l.length := List.length_map ..
  have htop := stC_top hes
  have hle := stC_le hes
  have htk : (es.take (rest.length + 1)).length = rest.length + 1 := by rw [List.length_take]; omega
  have hzt : IntKind.i64.wrap (((es.take (rest.length + 1)).length : Int) - 1) = (rest.length : Int) := by rw [htk, Go.Rx.wrap_i64 (by omega) (by omega)]; omega
  have hlv := lvC_len lv
  have hil := (List.getElem?_eq_some_iff.1 hw).1
  have hend : z ≤ ((l.map W.cells).length : Int) := by omega
  have hend2 : z < ((l.map W.cells).length : Int) := by omega
  have cm := is37 w 45 j (by omega)
  have cn := is37 w 33 j (by omega)
  have co := is37 w 40 j (by omega)
  have cc := is37 w 41 j (by omega)
  have hne : z ≠ ((l.map W.cells).length : Int) := by omega
  rw [hs] at cc
  have hgt : ((es.take (rest.length + 1)).length : Int) > 1 := by omega
  refine loop_step hp ?_
  conv => lhs; whnf
  refine iteK_dec_t hend ?_
  conv => lhs; whnf
  refine iteK_dec_t hend2 ?_
  conv => lhs; whnf
  refine nextK_of (aop_ix rfl rfl rfl rfl (ixL_at' (n := i) hz (word_get hw) rfl)) ?_
  conv => lhs; whnf
  refine nextK_of (aop_ixO (i := rest.length) rfl rfl rfl rfl rfl hzt (by omega)) ?_
  conv => lhs; whnf
  refine nextK_of (aop_ldE rfl rfl htop rfl rfl) ?_
  conv => lhs; whnf
  refine iteK_beq_f hne ?_
  conv => lhs; whnf
  refine nextK_of cc ?_
  conv => lhs; whnf
  refine iteK_dec_t hgt ?_
  conv => lhs; whnf
  refine nextK_of (aop_cutO (b := rest.length) rfl rfl rfl rfl rfl hzt (by omega)) ?_
  conv => lhs; whnf
  refine Eq.trans (hih _ rfl) ?_
  rfl
theorem f_err6a (j : Nat) (hj : 100 < j) (l : List W) (e u z dp : Int) (lv : List Int) (rest : List (Int × List Int)) (es : List (List D)) (hes : es.take (rest.length + 1) = stC ((dp, lv) :: rest)) (hrl : rest.length ≤ 100000) (i : Nat) (hz : z = (i : Int)) (hi : i ≤ l.length) (hl1 : l.length ≤ 100000) (w : W) (hw : l[i]? = some w) (hs : w.sg ≠ [41]) (hlvj : lv.length < j) (hlvl : lv.length ≤ 100000) (hq : (lv.dropWhile fun a => decide (a > levelK (kindW w))) = []) (hk6 : levelK (kindW w) = 6) {lp : LP} (hlp : lp = lpOf Try.prog cfg (icall Try.prog cfg j) Try.f24.ntmps 24 j (([] : Hp).map (·.1))) (lf : Nat) (st : St) (hp : prune [] [0, 1, 4, 5, 6, 7, 8] st = some ⟨[(0, .d (.list (l.map W.cells))), (1, .d (.int .i64 e)), (4, .ptr (.slot 4) 0), (5, .own (.slot 18) 0 (rest.length + 1)), (6, .d (.int .i64 u)), (7, .d (.bool false)), (8, .d (.int .i64 z))], [(.slot 4, .cells [.d (.int .i64 0), .d (.int .i64 0)]), (.slot 18, .arr 63 2 0 es)]⟩)  : loopK Try.prog cfg (icall Try.prog cfg j) lp Try.f24.ntmps 24 [] (bodyAt Try.f24 5) (lf + 1) st (exitP [] (some [1, 4, 5, 7])) = some (.ret, ⟨[(1, .d (.int .i64 e)), (4, .ptr (.slot 4) 0), (5, .own (.slot 18) 0 (rest.length + 1)), (7, .undef)], [(.slot 4, .cells [.d (.int .i64 3), .d (.int .i64 w.at')]), (.slot 18, .arr 63 2 0 es)]⟩) := by
  have hll : (l.map W.cells).length = l.length := List.length_map ..
  have htop := stC_top hes
  have hle := stC_le hes
  have htk : (es.take (rest.length + 1)).length = rest.length + 1 := by rw [List.length_take]; omega
  have hzt : IntKind.i64.wrap (((es.take (rest.length + 1)).length : Int) - 1) = (rest.length : Int) := by rw [htk, Go.Rx.wrap_i64 (by omega) (by omega)]; omega
  have hlv := lvC_len lv
  have hil := (List.getElem?_eq_some_iff.1 hw).1
  have hend : z ≤ ((l.map W.cells).length : Int) := by omega
  have hend2 : z < ((l.map W.cells).length : Int) := by omega
  have cm := is37 w 45 j (by omega)
  have cn := is37 w 33 j (by omega)
  have co := is37 w 40 j (by omega)
  have cc := is37 w 41 j (by omega)
  rw [beq_f hs] at cc
  have hne : z ≠ ((l.map W.cells).length : Int) := by omega
  have c39 := kind39 w j (by omega)
  have c38 := level38 (kindW w) j (by omega)
  have hpop := fun at' st (hp : prune [] [0, 1, 4, 5, 6, 8, 9, 11, 13, 14] st = some ⟨[(0, .d (.list (l.map W.cells))), (1, .d (.int .i64 e)), (4, .ptr (.slot 4) 0), (5, .own (.slot 18) 0 (rest.length + 1)), (6, .d (.int .i64 u)), (8, .d (.int .i64 z)), (9, .d (.int .i64 at')), (11, .ptr (.slot 11) 0), (13, .d (.int .i64 (levelK (kindW w)))), (14, .d (.list (lvC lv)))], [(.slot 4, .cells [.d (.int .i64 0), .d (.int .i64 0)]), (.slot 18, .arr 63 2 0 es), (.slot 11, .cells [.d (.int .i64 dp), .d (.list (lvC lv))])]⟩) => popL j l e u z at' (levelK (kindW w)) dp lv (rest.length + 1) es hlp lv j st hlvj (by omega) hp
  rw [hq] at hpop
  generalize levelK (kindW w) = kk at *
  have hqn0 : ((lvC []).length : Int) = 0 := by simp [lvC]
  have hqp : ¬ ((lvC []).length : Int) > 0 := by omega
  refine loop_step hp ?_
  conv => lhs; whnf
  refine iteK_dec_t hend ?_
  conv => lhs; whnf
  refine iteK_dec_t hend2 ?_
  conv => lhs; whnf
  refine nextK_of (aop_ix rfl rfl rfl rfl (ixL_at' (n := i) hz (word_get hw) rfl)) ?_
  conv => lhs; whnf
  refine nextK_of (aop_ixO (i := rest.length) rfl rfl rfl rfl rfl hzt (by omega)) ?_
  conv => lhs; whnf
  refine nextK_of (aop_ldE rfl rfl htop rfl rfl) ?_
  conv => lhs; whnf
  refine iteK_beq_f hne ?_
  conv => lhs; whnf
  refine nextK_of cc ?_
  conv => lhs; whnf
  refine nextK_of c39 ?_
  conv => lhs; whnf
  refine nextK_of c38 ?_
  conv => lhs; whnf
  refine nextK_of (loop_at hlp (hpop _ _ rfl)) ?_
  conv => lhs; whnf
  refine iteK_beq_t hk6 ?_
  conv => lhs; whnf
  refine iteK_beq_t hk6 ?_
  conv => lhs; whnf
  refine iteK_beq_t hk6 ?_
  conv => lhs; whnf
  refine iteK_beq_t hk6 ?_
  conv => lhs; whnf
  refine Eq.trans (b := some (Fx.ret, St.mk [((1 : Nat), AV.d (D.int IntKind.i64 e)), ((4 : Nat), AV.ptr (Nm.slot (4 : Nat)) (0 : Nat)), ((5 : Nat), AV.own (Nm.slot (18 : Nat)) (nat_lit 0) (List.length rest + (1 : Nat))), ((7 : Nat), AV.undef)] [(Nm.slot (4 : Nat), AObj.cells [AV.d (D.int IntKind.i64 (3 : Int)), AV.d (D.int IntKind.i64 w.at')]), (Nm.slot (18 : Nat), AObj.arr (63 : Nat) (2 : Nat) (nat_lit 0) es)])) (by kernel_rfl) ?_
  rfl
theorem f_err6b (j : Nat) (hj : 100 < j) (l : List W) (e u z dp : Int) (lv : List Int) (rest : List (Int × List Int)) (es : List (List D)) (hes : es.take (rest.length + 1) = stC ((dp, lv) :: rest)) (hrl : rest.length ≤ 100000) (i : Nat) (hz : z = (i : Int)) (hi : i ≤ l.length) (hl1 : l.length ≤ 100000) (w : W) (hw : l[i]? = some w) (hs : w.sg ≠ [41]) (hlvj : lv.length < j) (hlvl : lv.length ≤ 100000) (a : Int) (q : List Int) (hql : q.length ≤ 100000) (hq : (lv.dropWhile fun a => decide (a > levelK (kindW w))) = a :: q) (hk6 : levelK (kindW w) = 6) {lp : LP} (hlp : lp = lpOf Try.prog cfg (icall Try.prog cfg j) Try.f24.ntmps 24 j (([] : Hp).map (·.1))) (lf : Nat) (st : St) (hp : prune [] [0, 1, 4, 5, 6, 7, 8] st = some ⟨[(0, .d (.list (l.map W.cells))), (1, .d (.int .i64 e)), (4, .ptr (.slot 4) 0), (5, .own (.slot 18) 0 (rest.length + 1)), (6, .d (.int .i64 u)), (7, .d (.bool false)), (8, .d (.int .i64 z))], [(.slot 4, .cells [.d (.int .i64 0), .d (.int .i64 0)]), (.slot 18, .arr 63 2 0 es)]⟩)  : loopK Try.prog cfg (icall Try.prog cfg j) lp Try.f24.ntmps 24 [] (bodyAt Try.f24 5) (lf + 1) st (exitP [] (some [1, 4, 5, 7])) = some (.ret, ⟨[(1, .d (.int .i64 e)), (4, .ptr (.slot 4) 0), (5, .own (.slot 18) 0 (rest.length + 1)), (7, .undef)], [(.slot 4, .cells [.d (.int .i64 3), .d (.int .i64 w.at')]), (.slot 18, .arr 63 2 0 es)]⟩) := by
  have hll : (l.map W.cells).length = l.length := List.length_map ..
  have htop := stC_top hes
  have hle := stC_le hes
  have htk : (es.take (rest.length + 1)).length = rest.length + 1 := by rw [List.length_take]; omega
  have hzt : IntKind.i64.wrap (((es.take (rest.length + 1)).length : Int) - 1) = (rest.length : Int) := by rw [htk, Go.Rx.wrap_i64 (by omega) (by omega)]; omega
  have hlv := lvC_len lv
  have hil := (List.getElem?_eq_some_iff.1 hw).1
  have hend : z ≤ ((l.map W.cells).length : Int) := by omega
  have hend2 : z < ((l.map W.cells).length : Int) := by omega
  have cm := is37 w 45 j (by omega)
  have cn := is37 w 33 j (by omega)
  have co := is37 w 40 j (by omega)
  have cc := is37 w 41 j (by omega)
  rw [beq_f hs] at cc
  have hne : z ≠ ((l.map W.cells).length : Int) := by omega
  have c39 := kind39 w j (by omega)
  have c38 := level38 (kindW w) j (by omega)
  have hpop := fun at' st (hp : prune [] [0, 1, 4, 5, 6, 8, 9, 11, 13, 14] st = some ⟨[(0, .d (.list (l.map W.cells))), (1, .d (.int .i64 e)), (4, .ptr (.slot 4) 0), (5, .own (.slot 18) 0 (rest.length + 1)), (6, .d (.int .i64 u)), (8, .d (.int .i64 z)), (9, .d (.int .i64 at')), (11, .ptr (.slot 11) 0), (13, .d (.int .i64 (levelK (kindW w)))), (14, .d (.list (lvC lv)))], [(.slot 4, .cells [.d (.int .i64 0), .d (.int .i64 0)]), (.slot 18, .arr 63 2 0 es), (.slot 11, .cells [.d (.int .i64 dp), .d (.list (lvC lv))])]⟩) => popL j l e u z at' (levelK (kindW w)) dp lv (rest.length + 1) es hlp lv j st hlvj (by omega) hp
  rw [hq] at hpop
  generalize levelK (kindW w) = kk at *
  have hqn : (lvC (a :: q)).length = q.length + 1 := by rw [lvC_len]; rfl
  have hqz : IntKind.i64.wrap (((lvC (a :: q)).length : Int) - 1) = (q.length : Int) := by rw [hqn, Go.Rx.wrap_i64 (by omega) (by omega)]; omega
  have hqg := lvC_last a q
  have hqp : ((lvC (a :: q)).length : Int) > 0 := by omega
  have hqa := lvC_all (a :: q)
  have hqb : (lvC (a :: q)).length ≠ 0 := by omega
  generalize lvC (a :: q) = Lq at *
  refine loop_step hp ?_
  conv => lhs; whnf
  refine iteK_dec_t hend ?_
  conv => lhs; whnf
  refine iteK_dec_t hend2 ?_
  conv => lhs; whnf
  refine nextK_of (aop_ix rfl rfl rfl rfl (ixL_at' (n := i) hz (word_get hw) rfl)) ?_
  conv => lhs; whnf
  refine nextK_of (aop_ixO (i := rest.length) rfl rfl rfl rfl rfl hzt (by omega)) ?_
  conv => lhs; whnf
  refine nextK_of (aop_ldE rfl rfl htop rfl rfl) ?_
  conv => lhs; whnf
  refine iteK_beq_f hne ?_
  conv => lhs; whnf
  refine nextK_of cc ?_
  conv => lhs; whnf
  refine nextK_of c39 ?_
  conv => lhs; whnf
  refine nextK_of c38 ?_
  conv => lhs; whnf
  refine nextK_of (loop_at hlp (hpop _ _ rfl)) ?_
  conv => lhs; whnf
  refine iteK_dec_t hqp ?_
  conv => lhs; whnf
  refine iteK_dec_t hqp ?_
  conv => lhs; whnf
  refine iteK_dec_t hqp ?_
  conv => lhs; whnf
  refine iteK_dec_t hqp ?_
  conv => lhs; whnf
  refine iteK_dec_t hqp ?_
  conv => lhs; whnf
  refine nextK_of (aop_ix rfl rfl rfl rfl (ixL_at' (n := q.length) hqz hqg rfl)) ?_
  conv => lhs; whnf
  refine iteK_dec_t hqp ?_
  conv => lhs; whnf
  refine iteK_dec_t hqp ?_
  conv => lhs; whnf
  refine iteK_dec_t hqp ?_
  conv => lhs; whnf
  refine iteK_dec_t hqp ?_
  conv => lhs; whnf
  refine iteK_beq_t hk6 ?_
  conv => lhs; whnf
  refine iteK_beq_t hk6 ?_
  conv => lhs; whnf
  refine iteK_beq_t hk6 ?_
  conv => lhs; whnf
  refine iteK_beq_t hk6 ?_
  conv => lhs; whnf
  refine Eq.trans (b := some (Fx.ret, St.mk [((1 : Nat), AV.d (D.int IntKind.i64 e)), ((4 : Nat), AV.ptr (Nm.slot (4 : Nat)) (0 : Nat)), ((5 : Nat), AV.own (Nm.slot (18 : Nat)) (nat_lit 0) (List.length rest + (1 : Nat))), ((7 : Nat), AV.undef)] [(Nm.slot (4 : Nat), AObj.cells [AV.d (D.int IntKind.i64 (3 : Int)), AV.d (D.int IntKind.i64 w.at')]), (Nm.slot (18 : Nat), AObj.arr (63 : Nat) (2 : Nat) (nat_lit 0) es)])) (by kernel_rfl) ?_
  rfl
theorem f_err6c (j : Nat) (hj : 100 < j) (l : List W) (e u z dp : Int) (lv : List Int) (rest : List (Int × List Int)) (es : List (List D)) (hes : es.take (rest.length + 1) = stC ((dp, lv) :: rest)) (hrl : rest.length ≤ 100000) (i : Nat) (hz : z = (i : Int)) (hi : i ≤ l.length) (hl1 : l.length ≤ 100000) (w : W) (hw : l[i]? = some w) (hs : w.sg = [41]) (hr0 : rest.length = 0) (hlvj : lv.length < j) (hlvl : lv.length ≤ 100000) (hq : (lv.dropWhile fun a => decide (a > levelK (kindW w))) = []) (hk6 : levelK (kindW w) = 6) {lp : LP} (hlp : lp = lpOf Try.prog cfg (icall Try.prog cfg j) Try.f24.ntmps 24 j (([] : Hp).map (·.1))) (lf : Nat) (st : St) (hp : prune [] [0, 1, 4, 5, 6, 7, 8] st = some ⟨[(0, .d (.list (l.map W.cells))), (1, .d (.int .i64 e)), (4, .ptr (.slot 4) 0), (5, .own (.slot 18) 0 (rest.length + 1)), (6, .d (.int .i64 u)), (7, .d (.bool false)), (8, .d (.int .i64 z))], [(.slot 4, .cells [.d (.int .i64 0), .d (.int .i64 0)]), (.slot 18, .arr 63 2 0 es)]⟩)  : loopK Try.prog cfg (icall Try.prog cfg j) lp Try.f24.ntmps 24 [] (bodyAt Try.f24 5) (lf + 1) st (exitP [] (some [1, 4, 5, 7])) = some (.ret, ⟨[(1, .d (.int .i64 e)), (4, .ptr (.slot 4) 0), (5, .own (.slot 18) 0 (rest.length + 1)), (7, .undef)], [(.slot 4, .cells [.d (.int .i64 3), .d (.int .i64 w.at')]), (.slot 18, .arr 63 2 0 es)]⟩) := by
  have hll : (l.map W.cells).length = l.length := List.length_map ..
  have htop := stC_top hes
  have hle := stC_le hes
  have htk : (es.take (rest.length + 1)).length = rest.length + 1 := by rw [List.length_take]; omega
  have hzt : IntKind.i64.wrap (((es.take (rest.length + 1)).length : Int) - 1) = (rest.length : Int) := by rw [htk, Go.Rx.wrap_i64 (by omega) (by omega)]; omega
  have hlv := lvC_len lv
  have hil := (List.getElem?_eq_some_iff.1 hw).1
  have hend : z ≤ ((l.map W.cells).length : Int) := by omega
  have hend2 : z < ((l.map W.cells).length : Int) := by omega
  have cm := is37 w 45 j (by omega)
  have cn := is37 w 33 j (by omega)
  have co := is37 w 40 j (by omega)
  have cc := is37 w 41 j (by omega)
  rw [hs] at cc
  have hgt : ¬ ((es.take (rest.length + 1)).length : Int) > 1 := by omega
  have hne : z ≠ ((l.map W.cells).length : Int) := by omega
  have c39 := kind39 w j (by omega)
  have c38 := level38 (kindW w) j (by omega)
  have hpop := fun at' st (hp : prune [] [0, 1, 4, 5, 6, 8, 9, 11, 13, 14] st = some ⟨[(0, .d (.list (l.map W.cells))), (1, .d (.int .i64 e)), (4, .ptr (.slot 4) 0), (5, .own (.slot 18) 0 (rest.length + 1)), (6, .d (.int .i64 u)), (8, .d (.int .i64 z)), (9, .d (.int .i64 at')), (11, .ptr (.slot 11) 0), (13, .d (.int .i64 (levelK (kindW w)))), (14, .d (.list (lvC lv)))], [(.slot 4, .cells [.d (.int .i64 0), .d (.int .i64 0)]), (.slot 18, .arr 63 2 0 es), (.slot 11, .cells [.d (.int .i64 dp), .d (.list (lvC lv))])]⟩) => popL j l e u z at' (levelK (kindW w)) dp lv (rest.length + 1) es hlp lv j st hlvj (by omega) hp
  rw [hq] at hpop
  generalize levelK (kindW w) = kk at *
  have hqn0 : ((lvC []).length : Int) = 0 := by simp [lvC]
  have hqp : ¬ ((lvC []).length : Int) > 0 := by omega
  refine loop_step hp ?_
  conv => lhs; whnf
  refine iteK_dec_t hend ?_
  conv => lhs; whnf
  refine iteK_dec_t hend2 ?_
  conv => lhs; whnf
  refine nextK_of (aop_ix rfl rfl rfl rfl (ixL_at' (n := i) hz (word_get hw) rfl)) ?_
  conv => lhs; whnf
  refine nextK_of (aop_ixO (i := rest.length) rfl rfl rfl rfl rfl hzt (by omega)) ?_
  conv => lhs; whnf
  refine nextK_of (aop_ldE rfl rfl htop rfl rfl) ?_
  conv => lhs; whnf
  refine iteK_beq_f hne ?_
  conv => lhs; whnf
  refine nextK_of cc ?_
  conv => lhs; whnf
  refine iteK_dec_f hgt ?_
  conv => lhs; whnf
  refine nextK_of c39 ?_
  conv => lhs; whnf
  refine nextK_of c38 ?_
  conv => lhs; whnf
  refine nextK_of (loop_at hlp (hpop _ _ rfl)) ?_
  conv => lhs; whnf
  refine iteK_beq_t hk6 ?_
  conv => lhs; whnf
  refine iteK_beq_t hk6 ?_
  conv => lhs; whnf
  refine iteK_beq_t hk6 ?_
  conv => lhs; whnf
  refine iteK_beq_t hk6 ?_
  conv => lhs; whnf
  refine Eq.trans (b := some (Fx.ret, St.mk [((1 : Nat), AV.d (D.int IntKind.i64 e)), ((4 : Nat), AV.ptr (Nm.slot (4 : Nat)) (0 : Nat)), ((5 : Nat), AV.own (Nm.slot (18 : Nat)) (nat_lit 0) (List.length rest + (1 : Nat))), ((7 : Nat), AV.undef)] [(Nm.slot (4 : Nat), AObj.cells [AV.d (D.int IntKind.i64 (3 : Int)), AV.d (D.int IntKind.i64 w.at')]), (Nm.slot (18 : Nat), AObj.arr (63 : Nat) (2 : Nat) (nat_lit 0) es)])) (by kernel_rfl) ?_
  rfl
theorem f_err6d (j : Nat) (hj : 100 < j) (l : List W) (e u z dp : Int) (lv : List Int) (rest : List (Int × List Int)) (es : List (List D)) (hes : es.take (rest.length + 1) = stC ((dp, lv) :: rest)) (hrl : rest.length ≤ 100000) (i : Nat) (hz : z = (i : Int)) (hi : i ≤ l.length) (hl1 : l.length ≤ 100000) (w : W) (hw : l[i]? = some w) (hs : w.sg = [41]) (hr0 : rest.length = 0) (hlvj : lv.length < j) (hlvl : lv.length ≤ 100000) (a : Int) (q : List Int) (hql : q.length ≤ 100000) (hq : (lv.dropWhile fun a => decide (a > levelK (kindW w))) = a :: q) (hk6 : levelK (kindW w) = 6) {lp : LP} (hlp : lp = lpOf Try.prog cfg (icall Try.prog cfg j) Try.f24.ntmps 24 j (([] : Hp).map (·.1))) (lf : Nat) (st : St) (hp : prune [] [0, 1, 4, 5, 6, 7, 8] st = some ⟨[(0, .d (.list (l.map W.cells))), (1, .d (.int .i64 e)), (4, .ptr (.slot 4) 0), (5, .own (.slot 18) 0 (rest.length + 1)), (6, .d (.int .i64 u)), (7, .d (.bool false)), (8, .d (.int .i64 z))], [(.slot 4, .cells [.d (.int .i64 0), .d (.int .i64 0)]), (.slot 18, .arr 63 2 0 es)]⟩)  : loopK Try.prog cfg (icall Try.prog cfg j) lp Try.f24.ntmps 24 [] (bodyAt Try.f24 5) (lf + 1) st (exitP [] (some [1, 4, 5, 7])) = some (.ret, ⟨[(1, .d (.int .i64 e)), (4, .ptr (.slot 4) 0), (5, .own (.slot 18) 0 (rest.length + 1)), (7, .undef)], [(.slot 4, .cells [.d (.int .i64 3), .d (.int .i64 w.at')]), (.slot 18, .arr 63 2 0 es)]⟩) := by
  have hll : (l.map W.cells).length = l.length := List.length_map ..
  have htop := stC_top hes
  have hle := stC_le hes
  have htk : (es.take (rest.length + 1)).length = rest.length + 1 := by rw [List.length_take]; omega
  have hzt : IntKind.i64.wrap (((es.take (rest.length + 1)).length : Int) - 1) = (rest.length : Int) := by rw [htk, Go.Rx.wrap_i64 (by omega) (by omega)]; omega
  have hlv := lvC_len lv
  have hil := (List.getElem?_eq_some_iff.1 hw).1
  have hend : z ≤ ((l.map W.cells).length : Int) := by omega
  have hend2 : z < ((l.map W.cells).length : Int) := by omega
  have cm := is37 w 45 j (by omega)
  have cn := is37 w 33 j (by omega)
  have co := is37 w 40 j (by omega)
  have cc := is37 w 41 j (by omega)
  rw [hs] at cc
  have hgt : ¬ ((es.take (rest.length + 1)).length : Int) > 1 := by omega
  have hne : z ≠ ((l.map W.cells).length : Int) := by omega
  have c39 := kind39 w j (by omega)
  have c38 := level38 (kindW w) j (by omega)
  have hpop := fun at' st (hp : prune [] [0, 1, 4, 5, 6, 8, 9, 11, 13, 14] st = some ⟨[(0, .d (.list (l.map W.cells))), (1, .d (.int .i64 e)), (4, .ptr (.slot 4) 0), (5, .own (.slot 18) 0 (rest.length + 1)), (6, .d (.int .i64 u)), (8, .d (.int .i64 z)), (9, .d (.int .i64 at')), (11, .ptr (.slot 11) 0), (13, .d (.int .i64 (levelK (kindW w)))), (14, .d (.list (lvC lv)))], [(.slot 4, .cells [.d (.int .i64 0), .d (.int .i64 0)]), (.slot 18, .arr 63 2 0 es), (.slot 11, .cells [.d (.int .i64 dp), .d (.list (lvC lv))])]⟩) => popL j l e u z at' (levelK (kindW w)) dp lv (rest.length + 1) es hlp lv j st hlvj (by omega) hp
  rw [hq] at hpop
  generalize levelK (kindW w) = kk at *
  have hqn : (lvC (a :: q)).length = q.length + 1 := by rw [lvC_len]; rfl
  have hqz : IntKind.i64.wrap (((lvC (a :: q)).length : Int) - 1) = (q.length : Int) := by rw [hqn, Go.Rx.wrap_i64 (by omega) (by omega)]; omega
  have hqg := lvC_last a q
  have hqp : ((lvC (a :: q)).length : Int) > 0 := by omega
  have hqa := lvC_all (a :: q)
  have hqb : (lvC (a :: q)).length ≠ 0 := by omega
  generalize lvC (a :: q) = Lq at *
  refine loop_step hp ?_
  conv => lhs; whnf
  refine iteK_dec_t hend ?_
  conv => lhs; whnf
  refine iteK_dec_t hend2 ?_
  conv => lhs; whnf
  refine nextK_of (aop_ix rfl rfl rfl rfl (ixL_at' (n := i) hz (word_get hw) rfl)) ?_
  conv => lhs; whnf
  refine nextK_of (aop_ixO (i := rest.length) rfl rfl rfl rfl rfl hzt (by omega)) ?_
  conv => lhs; whnf
  refine nextK_of (aop_ldE rfl rfl htop rfl rfl) ?_
  conv => lhs; whnf
  refine iteK_beq_f hne ?_
  conv => lhs; whnf
  refine nextK_of cc ?_
  conv => lhs; whnf
  refine iteK_dec_f hgt ?_
  conv => lhs; whnf
  refine nextK_of c39 ?_
  conv => lhs; whnf
  refine nextK_of c38 ?_
  conv => lhs; whnf
  refine nextK_of (loop_at hlp (hpop _ _ rfl)) ?_
  conv => lhs; whnf
  refine iteK_dec_t hqp ?_
  conv => lhs; whnf
  refine iteK_dec_t hqp ?_
  conv => lhs; whnf
  refine iteK_dec_t hqp ?_
  conv => lhs; whnf
  refine iteK_dec_t hqp ?_
  conv => lhs; whnf
  refine iteK_dec_t hqp ?_
  conv => lhs; whnf
  refine nextK_of (aop_ix rfl rfl rfl rfl (ixL_at' (n := q.length) hqz hqg rfl)) ?_
  conv => lhs; whnf
  refine iteK_dec_t hqp ?_
  conv => lhs; whnf
  refine iteK_dec_t hqp ?_
  conv => lhs; whnf
  refine iteK_dec_t hqp ?_
  conv => lhs; whnf
  refine iteK_dec_t hqp ?_
  conv => lhs; whnf
  refine iteK_beq_t hk6 ?_
  conv => lhs; whnf
  refine iteK_beq_t hk6 ?_
  conv => lhs; whnf
  refine iteK_beq_t hk6 ?_
  conv => lhs; whnf
  refine iteK_beq_t hk6 ?_
  conv => lhs; whnf
  refine Eq.trans (b := some (Fx.ret, St.mk [((1 : Nat), AV.d (D.int IntKind.i64 e)), ((4 : Nat), AV.ptr (Nm.slot (4 : Nat)) (0 : Nat)), ((5 : Nat), AV.own (Nm.slot (18 : Nat)) (nat_lit 0) (List.length rest + (1 : Nat))), ((7 : Nat), AV.undef)] [(Nm.slot (4 : Nat), AObj.cells [AV.d (D.int IntKind.i64 (3 : Int)), AV.d (D.int IntKind.i64 w.at')]), (Nm.slot (18 : Nat), AObj.arr (63 : Nat) (2 : Nat) (nat_lit 0) es)])) (by kernel_rfl) ?_
  rfl
theorem f_err3 (j : Nat) (hj : 100 < j) (l : List W) (e u z dp : Int) (lv : List Int) (rest : List (Int × List Int)) (es : List (List D)) (hes : es.take (rest.length + 1) = stC ((dp, lv) :: rest)) (hrl : rest.length ≤ 100000) (i : Nat) (hz : z = (i : Int)) (hi : i ≤ l.length) (hl1 : l.length ≤ 100000) (w : W) (hw : l[i]? = some w) (hs : w.sg ≠ [41]) (hlvj : lv.length < j) (hlvl : lv.length ≤ 100000) (a : Int) (q : List Int) (hql : q.length ≤ 100000) (hq : (lv.dropWhile fun a => decide (a > levelK (kindW w))) = a :: q) (ha : a = levelK (kindW w)) (hk3 : levelK (kindW w) = 3) {lp : LP} (hlp : lp = lpOf Try.prog cfg (icall Try.prog cfg j) Try.f24.ntmps 24 j (([] : Hp).map (·.1))) (lf : Nat) (st : St) (hp : prune [] [0, 1, 4, 5, 6, 7, 8] st = some ⟨[(0, .d (.list (l.map W.cells))), (1, .d (.int .i64 e)), (4, .ptr (.slot 4) 0), (5, .own (.slot 18) 0 (rest.length + 1)), (6, .d (.int .i64 u)), (7, .d (.bool false)), (8, .d (.int .i64 z))], [(.slot 4, .cells [.d (.int .i64 0), .d (.int .i64 0)]), (.slot 18, .arr 63 2 0 es)]⟩)  : loopK Try.prog cfg (icall Try.prog cfg j) lp Try.f24.ntmps 24 [] (bodyAt Try.f24 5) (lf + 1) st (exitP [] (some [1, 4, 5, 7])) = some (.ret, ⟨[(1, .d (.int .i64 e)), (4, .ptr (.slot 4) 0), (5, .own (.slot 18) 0 (rest.length + 1)), (7, .undef)], [(.slot 4, .cells [.d (.int .i64 3), .d (.int .i64 w.at')]), (.slot 18, .arr 63 2 0 es)]⟩) := by
  have hll : (l.map W.cells).length = l.length := List.length_map ..
  have htop := stC_top hes
  have hle := stC_le hes
  have htk : (es.take (rest.length + 1)).length = rest.length + 1 := by rw [List.length_take]; omega
  have hzt : IntKind.i64.wrap (((es.take (rest.length + 1)).length : Int) - 1) = (rest.length : Int) := by rw [htk, Go.Rx.wrap_i64 (by omega) (by omega)]; omega
  have hlv := lvC_len lv
  have hil := (List.getElem?_eq_some_iff.1 hw).1
  have hend : z ≤ ((l.map W.cells).length : Int) := by omega
  have hend2 : z < ((l.map W.cells).length : Int) := by omega
  have cm := is37 w 45 j (by omega)
  have cn := is37 w 33 j (by omega)
  have co := is37 w 40 j (by omega)
  have cc := is37 w 41 j (by omega)
  rw [beq_f hs] at cc
  have hne : z ≠ ((l.map W.cells).length : Int) := by omega
  have c39 := kind39 w j (by omega)
  have c38 := level38 (kindW w) j (by omega)
  have hpop := fun at' st (hp : prune [] [0, 1, 4, 5, 6, 8, 9, 11, 13, 14] st = some ⟨[(0, .d (.list (l.map W.cells))), (1, .d (.int .i64 e)), (4, .ptr (.slot 4) 0), (5, .own (.slot 18) 0 (rest.length + 1)), (6, .d (.int .i64 u)), (8, .d (.int .i64 z)), (9, .d (.int .i64 at')), (11, .ptr (.slot 11) 0), (13, .d (.int .i64 (levelK (kindW w)))), (14, .d (.list (lvC lv)))], [(.slot 4, .cells [.d (.int .i64 0), .d (.int .i64 0)]), (.slot 18, .arr 63 2 0 es), (.slot 11, .cells [.d (.int .i64 dp), .d (.list (lvC lv))])]⟩) => popL j l e u z at' (levelK (kindW w)) dp lv (rest.length + 1) es hlp lv j st hlvj (by omega) hp
  rw [hq] at hpop
  generalize levelK (kindW w) = kk at *
  have hqn : (lvC (a :: q)).length = q.length + 1 := by rw [lvC_len]; rfl
  have hqz : IntKind.i64.wrap (((lvC (a :: q)).length : Int) - 1) = (q.length : Int) := by rw [hqn, Go.Rx.wrap_i64 (by omega) (by omega)]; omega
  have hqg := lvC_last a q
  have hqp : ((lvC (a :: q)).length : Int) > 0 := by omega
  have hqa := lvC_all (a :: q)
  have hqb : (lvC (a :: q)).length ≠ 0 := by omega
  generalize lvC (a :: q) = Lq at *
  refine loop_step hp ?_
  conv => lhs; whnf
  refine iteK_dec_t hend ?_
  conv => lhs; whnf
  refine iteK_dec_t hend2 ?_
  conv => lhs; whnf
  refine nextK_of (aop_ix rfl rfl rfl rfl (ixL_at' (n := i) hz (word_get hw) rfl)) ?_
  conv => lhs; whnf
  refine nextK_of (aop_ixO (i := rest.length) rfl rfl rfl rfl rfl hzt (by omega)) ?_
  conv => lhs; whnf
  refine nextK_of (aop_ldE rfl rfl htop rfl rfl) ?_
  conv => lhs; whnf
  refine iteK_beq_f hne ?_
  conv => lhs; whnf
  refine nextK_of cc ?_
  conv => lhs; whnf
  refine nextK_of c39 ?_
  conv => lhs; whnf
  refine nextK_of c38 ?_
  conv => lhs; whnf
  refine nextK_of (loop_at hlp (hpop _ _ rfl)) ?_
  conv => lhs; whnf
  refine iteK_dec_t hqp ?_
  conv => lhs; whnf
  refine iteK_dec_t hqp ?_
  conv => lhs; whnf
  refine iteK_dec_t hqp ?_
  conv => lhs; whnf
  refine iteK_dec_t hqp ?_
  conv => lhs; whnf
  refine iteK_dec_t hqp ?_
  conv => lhs; whnf
  refine nextK_of (aop_ix rfl rfl rfl rfl (ixL_at' (n := q.length) hqz hqg rfl)) ?_
  conv => lhs; whnf
  refine iteK_dec_t hqp ?_
  conv => lhs; whnf
  refine iteK_dec_t hqp ?_
  conv => lhs; whnf
  refine iteK_dec_t hqp ?_
  conv => lhs; whnf
  refine iteK_dec_t hqp ?_
  conv => lhs; whnf
  refine iteK_beq (fun h1 => ?_) (fun h1 => ?_)
  · obtain rfl : kk = (6 : Int) := h1
    (exfalso; omega)
  · rw [beq_f h1]
    conv => lhs; whnf
    refine iteK_beq_t ha ?_
    conv => lhs; whnf
    refine iteK_beq_t ha ?_
    conv => lhs; whnf
    refine iteK_beq_t ha ?_
    conv => lhs; whnf
    refine iteK_beq_t hk3 ?_
    conv => lhs; whnf
    refine Eq.trans (b := some (Fx.ret, St.mk [((1 : Nat), AV.d (D.int IntKind.i64 e)), ((4 : Nat), AV.ptr (Nm.slot (4 : Nat)) (0 : Nat)), ((5 : Nat), AV.own (Nm.slot (18 : Nat)) (nat_lit 0) (List.length rest + (1 : Nat))), ((7 : Nat), AV.undef)] [(Nm.slot (4 : Nat), AObj.cells [AV.d (D.int IntKind.i64 (3 : Int)), AV.d (D.int IntKind.i64 w.at')]), (Nm.slot (18 : Nat), AObj.arr (63 : Nat) (2 : Nat) (nat_lit 0) es)])) (by kernel_rfl) ?_
    rfl
theorem f_nil (j : Nat) (hj : 100 < j) (l : List W) (e u z dp : Int) (lv : List Int) (rest : List (Int × List Int)) (es : List (List D)) (hes : es.take (rest.length + 1) = stC ((dp, lv) :: rest)) (hrl : rest.length ≤ 100000) (i : Nat) (hz : z = (i : Int)) (hi : i ≤ l.length) (hl1 : l.length ≤ 100000) (w : W) (hw : l[i]? = some w) (hs : w.sg ≠ [41]) (hlvj : lv.length < j) (hlvl : lv.length ≤ 100000) (hq : (lv.dropWhile fun a => decide (a > levelK (kindW w))) = []) (hk6 : levelK (kindW w) ≠ 6) {lp : LP} (hlp : lp = lpOf Try.prog cfg (icall Try.prog cfg j) Try.f24.ntmps 24 j (([] : Hp).map (·.1))) (lf : Nat) (st : St) (hp : prune [] [0, 1, 4, 5, 6, 7, 8] st = some ⟨[(0, .d (.list (l.map W.cells))), (1, .d (.int .i64 e)), (4, .ptr (.slot 4) 0), (5, .own (.slot 18) 0 (rest.length + 1)), (6, .d (.int .i64 u)), (7, .d (.bool false)), (8, .d (.int .i64 z))], [(.slot 4, .cells [.d (.int .i64 0), .d (.int .i64 0)]), (.slot 18, .arr 63 2 0 es)]⟩) (r : Option (Fx × St))
    (hih : ∀ st', prune [] [0, 1, 4, 5, 6, 7, 8] st' = some ⟨[(0, .d (.list (l.map W.cells))), (1, .d (.int .i64 e)), (4, .ptr (.slot 4) 0), (5, .own (.slot 18) 0 (rest.length + 1)), (6, .d (.int .i64 u)), (7, .d (.bool true)), (8, .d (.int .i64 (IntKind.i64.wrap (z + 1))))], [(.slot 4, .cells [.d (.int .i64 0), .d (.int .i64 0)]), (.slot 18, .arr 63 2 0 (es.set rest.length [.int .i64 dp, .list [[.int .i64 (levelK (kindW w))]]]))]⟩ → loopK Try.prog cfg (icall Try.prog cfg j) lp Try.f24.ntmps 24 [] (bodyAt Try.f24 5) lf st' (exitP [] (some [1, 4, 5, 7])) = r) : loopK Try.prog cfg (icall Try.prog cfg j) lp Try.f24.ntmps 24 [] (bodyAt Try.f24 5) (lf + 1) st (exitP [] (some [1, 4, 5, 7])) = r := by
  have hll : (l.map W.cells).length = l.length := List.length_map ..
  have htop := stC_top hes
  have hle := stC_le hes
  have htk : (es.take (rest.length + 1)).length = rest.length + 1 := by rw [List.length_take]; omega
  have hzt : IntKind.i64.wrap (((es.take (rest.length + 1)).length : Int) - 1) = (rest.length : Int) := by rw [htk, Go.Rx.wrap_i64 (by omega) (by omega)]; omega
  have hlv := lvC_len lv
  have hil := (List.getElem?_eq_some_iff.1 hw).1
  have hend : z ≤ ((l.map W.cells).length : Int) := by omega
  have hend2 : z < ((l.map W.cells).length : Int) := by omega
  have cm := is37 w 45 j (by omega)
  have cn := is37 w 33 j (by omega)
  have co := is37 w 40 j (by omega)
  have cc := is37 w 41 j (by omega)
  rw [beq_f hs] at cc
  have hne : z ≠ ((l.map W.cells).length : Int) := by omega
  have c39 := kind39 w j (by omega)
  have c38 := level38 (kindW w) j (by omega)
  have hpop := fun at' st (hp : prune [] [0, 1, 4, 5, 6, 8, 9, 11, 13, 14] st = some ⟨[(0, .d (.list (l.map W.cells))), (1, .d (.int .i64 e)), (4, .ptr (.slot 4) 0), (5, .own (.slot 18) 0 (rest.length + 1)), (6, .d (.int .i64 u)), (8, .d (.int .i64 z)), (9, .d (.int .i64 at')), (11, .ptr (.slot 11) 0), (13, .d (.int .i64 (levelK (kindW w)))), (14, .d (.list (lvC lv)))], [(.slot 4, .cells [.d (.int .i64 0), .d (.int .i64 0)]), (.slot 18, .arr 63 2 0 es), (.slot 11, .cells [.d (.int .i64 dp), .d (.list (lvC lv))])]⟩) => popL j l e u z at' (levelK (kindW w)) dp lv (rest.length + 1) es hlp lv j st hlvj (by omega) hp
  rw [hq] at hpop
  generalize levelK (kindW w) = kk at *
  have hqn0 : ((lvC []).length : Int) = 0 := by simp [lvC]
  have hqp : ¬ ((lvC []).length : Int) > 0 := by omega
  refine loop_step hp ?_
  conv => lhs; whnf
  refine iteK_dec_t hend ?_
  conv => lhs; whnf
  refine iteK_dec_t hend2 ?_
  conv => lhs; whnf
  refine nextK_of (aop_ix rfl rfl rfl rfl (ixL_at' (n := i) hz (word_get hw) rfl)) ?_
  conv => lhs; whnf
  refine nextK_of (aop_ixO (i := rest.length) rfl rfl rfl rfl rfl hzt (by omega)) ?_
  conv => lhs; whnf
  refine nextK_of (aop_ldE rfl rfl htop rfl rfl) ?_
  conv => lhs; whnf
  refine iteK_beq_f hne ?_
  conv => lhs; whnf
  refine nextK_of cc ?_
  conv => lhs; whnf
  refine nextK_of c39 ?_
  conv => lhs; whnf
  refine nextK_of c38 ?_
  conv => lhs; whnf
  refine nextK_of (loop_at hlp (hpop _ _ rfl)) ?_
  conv => lhs; whnf
  refine iteK_beq_f hk6 ?_
  conv => lhs; whnf
  refine iteK_beq_f hk6 ?_
  conv => lhs; whnf
  refine iteK_beq_f hk6 ?_
  conv => lhs; whnf
  refine iteK_beq_f hk6 ?_
  conv => lhs; whnf
  refine nextK_of (aop_ixO (i := rest.length) rfl rfl rfl rfl rfl hzt (by omega)) ?_
  conv => lhs; whnf
  refine nextK_of (aop_stE rfl rfl rfl rfl rfl htop rfl) ?_
  conv => lhs; whnf
  refine Eq.trans (hih _ rfl) ?_
  rfl
theorem f_same (j : Nat) (hj : 100 < j) (l : List W) (e u z dp : Int) (lv : List Int) (rest : List (Int × List Int)) (es : List (List D)) (hes : es.take (rest.length + 1) = stC ((dp, lv) :: rest)) (hrl : rest.length ≤ 100000) (i : Nat) (hz : z = (i : Int)) (hi : i ≤ l.length) (hl1 : l.length ≤ 100000) (w : W) (hw : l[i]? = some w) (hs : w.sg ≠ [41]) (hlvj : lv.length < j) (hlvl : lv.length ≤ 100000) (a : Int) (q : List Int) (hql : q.length ≤ 100000) (hq : (lv.dropWhile fun a => decide (a > levelK (kindW w))) = a :: q) (ha : a = levelK (kindW w)) (hk6 : levelK (kindW w) ≠ 6) (hk3 : levelK (kindW w) ≠ 3) {lp : LP} (hlp : lp = lpOf Try.prog cfg (icall Try.prog cfg j) Try.f24.ntmps 24 j (([] : Hp).map (·.1))) (lf : Nat) (st : St) (hp : prune [] [0, 1, 4, 5, 6, 7, 8] st = some ⟨[(0, .d (.list (l.map W.cells))), (1, .d (.int .i64 e)), (4, .ptr (.slot 4) 0), (5, .own (.slot 18) 0 (rest.length + 1)), (6, .d (.int .i64 u)), (7, .d (.bool false)), (8, .d (.int .i64 z))], [(.slot 4, .cells [.d (.int .i64 0), .d (.int .i64 0)]), (.slot 18, .arr 63 2 0 es)]⟩) (r : Option (Fx × St))
    (hih : ∀ st', prune [] [0, 1, 4, 5, 6, 7, 8] st' = some ⟨[(0, .d (.list (l.map W.cells))), (1, .d (.int .i64 e)), (4, .ptr (.slot 4) 0), (5, .own (.slot 18) 0 (rest.length + 1)), (6, .d (.int .i64 u)), (7, .d (.bool true)), (8, .d (.int .i64 (IntKind.i64.wrap (z + 1))))], [(.slot 4, .cells [.d (.int .i64 0), .d (.int .i64 0)]), (.slot 18, .arr 63 2 0 (es.set rest.length [.int .i64 dp, .list ((lvC (a :: q)).take (lvC (a :: q)).length)]))]⟩ → loopK Try.prog cfg (icall Try.prog cfg j) lp Try.f24.ntmps 24 [] (bodyAt Try.f24 5) lf st' (exitP [] (some [1, 4, 5, 7])) = r) : loopK Try.prog cfg (icall Try.prog cfg j) lp Try.f24.ntmps 24 [] (bodyAt Try.f24 5) (lf + 1) st (exitP [] (some [1, 4, 5, 7])) = r := by
  have hll : (l.map W.cells).length = l.length := List.length_map ..
  have htop := stC_top hes
  have hle := stC_le hes
  have htk : (es.take (rest.length + 1)).length = rest.length + 1 := by rw [List.length_take]; omega
  have hzt : IntKind.i64.wrap (((es.take (rest.length + 1)).length : Int) - 1) = (rest.length : Int) := by rw [htk, Go.Rx.wrap_i64 (by omega) (by omega)]; omega
  have hlv := lvC_len lv
  have hil := (List.getElem?_eq_some_iff.1 hw).1
  have hend : z ≤ ((l.map W.cells).length : Int) := by omega
  have hend2 : z < ((l.map W.cells).length : Int) := by omega
  have cm := is37 w 45 j (by omega)
  have cn := is37 w 33 j (by omega)
  have co := is37 w 40 j (by omega)
  have cc := is37 w 41 j (by omega)
  rw [beq_f hs] at cc
  have hne : z ≠ ((l.map W.cells).length : Int) := by omega
  have c39 := kind39 w j (by omega)
  have c38 := level38 (kindW w) j (by omega)
  have hpop := fun at' st (hp : prune [] [0, 1, 4, 5, 6, 8, 9, 11, 13, 14] st = some ⟨[(0, .d (.list (l.map W.cells))), (1, .d (.int .i64 e)), (4, .ptr (.slot 4) 0), (5, .own (.slot 18) 0 (rest.length + 1)), (6, .d (.int .i64 u)), (8, .d (.int .i64 z)), (9, .d (.int .i64 at')), (11, .ptr (.slot 11) 0), (13, .d (.int .i64 (levelK (kindW w)))), (14, .d (.list (lvC lv)))], [(.slot 4, .cells [.d (.int .i64 0), .d (.int .i64 0)]), (.slot 18, .arr 63 2 0 es), (.slot 11, .cells [.d (.int .i64 dp), .d (.list (lvC lv))])]⟩) => popL j l e u z at' (levelK (kindW w)) dp lv (rest.length + 1) es hlp lv j st hlvj (by omega) hp
  rw [hq] at hpop
  generalize levelK (kindW w) = kk at *
  have hqn : (lvC (a :: q)).length = q.length + 1 := by rw [lvC_len]; rfl
  have hqz : IntKind.i64.wrap (((lvC (a :: q)).length : Int) - 1) = (q.length : Int) := by rw [hqn, Go.Rx.wrap_i64 (by omega) (by omega)]; omega
  have hqg := lvC_last a q
  have hqp : ((lvC (a :: q)).length : Int) > 0 := by omega
  have hqa := lvC_all (a :: q)
  have hqb : (lvC (a :: q)).length ≠ 0 := by omega
  generalize lvC (a :: q) = Lq at *
  refine loop_step hp ?_
  conv => lhs; whnf
  refine iteK_dec_t hend ?_
  conv => lhs; whnf
  refine iteK_dec_t hend2 ?_
  conv => lhs; whnf
  refine nextK_of (aop_ix rfl rfl rfl rfl (ixL_at' (n := i) hz (word_get hw) rfl)) ?_
  conv => lhs; whnf
  refine nextK_of (aop_ixO (i := rest.length) rfl rfl rfl rfl rfl hzt (by omega)) ?_
  conv => lhs; whnf
  refine nextK_of (aop_ldE rfl rfl htop rfl rfl) ?_
  conv => lhs; whnf
  refine iteK_beq_f hne ?_
  conv => lhs; whnf
  refine nextK_of cc ?_
  conv => lhs; whnf
  refine nextK_of c39 ?_
  conv => lhs; whnf
  refine nextK_of c38 ?_
  conv => lhs; whnf
  refine nextK_of (loop_at hlp (hpop _ _ rfl)) ?_
  conv => lhs; whnf
  refine iteK_dec_t hqp ?_
  conv => lhs; whnf
  refine iteK_dec_t hqp ?_
  conv => lhs; whnf
  refine iteK_dec_t hqp ?_
  conv => lhs; whnf
  refine iteK_dec_t hqp ?_
  conv => lhs; whnf
  refine iteK_dec_t hqp ?_
  conv => lhs; whnf
  refine nextK_of (aop_ix rfl rfl rfl rfl (ixL_at' (n := q.length) hqz hqg rfl)) ?_
  conv => lhs; whnf
  refine iteK_dec_t hqp ?_
  conv => lhs; whnf
  refine iteK_dec_t hqp ?_
  conv => lhs; whnf
  refine iteK_dec_t hqp ?_
  conv => lhs; whnf
  refine iteK_dec_t hqp ?_
  conv => lhs; whnf
  refine iteK_beq_f hk6 ?_
  conv => lhs; whnf
  refine iteK_beq_f hk6 ?_
  conv => lhs; whnf
  refine iteK_beq_t ha ?_
  conv => lhs; whnf
  refine iteK_beq_t ha ?_
  conv => lhs; whnf
  refine iteK_beq_f hk6 ?_
  conv => lhs; whnf
  refine iteK_beq_t ha ?_
  conv => lhs; whnf
  refine iteK_beq_f hk6 ?_
  conv => lhs; whnf
  refine iteK_beq_f hk3 ?_
  conv => lhs; whnf
  refine nextK_of (aop_begin rfl rfl rfl rfl rfl rfl rfl rfl rfl hqa rfl rfl hqb (lenL (by omega))) ?_
  conv => lhs; whnf
  refine iteK_not ?_
  conv => lhs; whnf
  refine iteK_beq_t ha ?_
  conv => lhs; whnf
  refine nextK_of (aop_ixO (i := rest.length) rfl rfl rfl rfl rfl hzt (by omega)) ?_
  conv => lhs; whnf
  refine nextK_of (aop_stE rfl rfl rfl rfl rfl htop rfl) ?_
  conv => lhs; whnf
  refine Eq.trans (hih _ rfl) ?_
  rfl
theorem f_more (j : Nat) (hj : 100 < j) (l : List W) (e u z dp : Int) (lv : List Int) (rest : List (Int × List Int)) (es : List (List D)) (hes : es.take (rest.length + 1) = stC ((dp, lv) :: rest)) (hrl : rest.length ≤ 100000) (i : Nat) (hz : z = (i : Int)) (hi : i ≤ l.length) (hl1 : l.length ≤ 100000) (w : W) (hw : l[i]? = some w) (hs : w.sg ≠ [41]) (hlvj : lv.length < j) (hlvl : lv.length ≤ 100000) (a : Int) (q : List Int) (hql : q.length ≤ 100000) (hq : (lv.dropWhile fun a => decide (a > levelK (kindW w))) = a :: q) (ha : a ≠ levelK (kindW w)) (hk6 : levelK (kindW w) ≠ 6) {lp : LP} (hlp : lp = lpOf Try.prog cfg (icall Try.prog cfg j) Try.f24.ntmps 24 j (([] : Hp).map (·.1))) (lf : Nat) (st : St) (hp : prune [] [0, 1, 4, 5, 6, 7, 8] st = some ⟨[(0, .d (.list (l.map W.cells))), (1, .d (.int .i64 e)), (4, .ptr (.slot 4) 0), (5, .own (.slot 18) 0 (rest.length + 1)), (6, .d (.int .i64 u)), (7, .d (.bool false)), (8, .d (.int .i64 z))], [(.slot 4, .cells [.d (.int .i64 0), .d (.int .i64 0)]), (.slot 18, .arr 63 2 0 es)]⟩) (r : Option (Fx × St))
    (hih : ∀ st', prune [] [0, 1, 4, 5, 6, 7, 8] st' = some ⟨[(0, .d (.list (l.map W.cells))), (1, .d (.int .i64 e)), (4, .ptr (.slot 4) 0), (5, .own (.slot 18) 0 (rest.length + 1)), (6, .d (.int .i64 u)), (7, .d (.bool true)), (8, .d (.int .i64 (IntKind.i64.wrap (z + 1))))], [(.slot 4, .cells [.d (.int .i64 0), .d (.int .i64 0)]), (.slot 18, .arr 63 2 0 (es.set rest.length [.int .i64 dp, .list (((lvC (a :: q)).take (lvC (a :: q)).length ++ [[D.int .i64 (levelK (kindW w))]]).take ((lvC (a :: q)).length + 1))]))]⟩ → loopK Try.prog cfg (icall Try.prog cfg j) lp Try.f24.ntmps 24 [] (bodyAt Try.f24 5) lf st' (exitP [] (some [1, 4, 5, 7])) = r) : loopK Try.prog cfg (icall Try.prog cfg j) lp Try.f24.ntmps 24 [] (bodyAt Try.f24 5) (lf + 1) st (exitP [] (some [1, 4, 5, 7])) = r := by
  have hll : (l.map W.cells).length = l.length := List.length_map ..
  have htop := stC_top hes
  have hle := stC_le hes
  have htk : (es.take (rest.length + 1)).length = rest.length + 1 := by rw [List.length_take]; omega
  have hzt : IntKind.i64.wrap (((es.take (rest.length + 1)).length : Int) - 1) = (rest.length : Int) := by rw [htk, Go.Rx.wrap_i64 (by omega) (by omega)]; omega
  have hlv := lvC_len lv
  have hil := (List.getElem?_eq_some_iff.1 hw).1
  have hend : z ≤ ((l.map W.cells).length : Int) := by omega
  have hend2 : z < ((l.map W.cells).length : Int) := by omega
  have cm := is37 w 45 j (by omega)
  have cn := is37 w 33 j (by omega)
  have co := is37 w 40 j (by omega)
  have cc := is37 w 41 j (by omega)
  rw [beq_f hs] at cc
  have hne : z ≠ ((l.map W.cells).length : Int) := by omega
  have c39 := kind39 w j (by omega)
  have c38 := level38 (kindW w) j (by omega)
  have hpop := fun at' st (hp : prune [] [0, 1, 4, 5, 6, 8, 9, 11, 13, 14] st = some ⟨[(0, .d (.list (l.map W.cells))), (1, .d (.int .i64 e)), (4, .ptr (.slot 4) 0), (5, .own (.slot 18) 0 (rest.length + 1)), (6, .d (.int .i64 u)), (8, .d (.int .i64 z)), (9, .d (.int .i64 at')), (11, .ptr (.slot 11) 0), (13, .d (.int .i64 (levelK (kindW w)))), (14, .d (.list (lvC lv)))], [(.slot 4, .cells [.d (.int .i64 0), .d (.int .i64 0)]), (.slot 18, .arr 63 2 0 es), (.slot 11, .cells [.d (.int .i64 dp), .d (.list (lvC lv))])]⟩) => popL j l e u z at' (levelK (kindW w)) dp lv (rest.length + 1) es hlp lv j st hlvj (by omega) hp
  rw [hq] at hpop
  generalize levelK (kindW w) = kk at *
  have hqn : (lvC (a :: q)).length = q.length + 1 := by rw [lvC_len]; rfl
  have hqz : IntKind.i64.wrap (((lvC (a :: q)).length : Int) - 1) = (q.length : Int) := by rw [hqn, Go.Rx.wrap_i64 (by omega) (by omega)]; omega
  have hqg := lvC_last a q
  have hqp : ((lvC (a :: q)).length : Int) > 0 := by omega
  have hqa := lvC_all (a :: q)
  have hqb : (lvC (a :: q)).length ≠ 0 := by omega
  generalize lvC (a :: q) = Lq at *
  refine loop_step hp ?_
  conv => lhs; whnf
  refine iteK_dec_t hend ?_
  conv => lhs; whnf
  refine iteK_dec_t hend2 ?_
  conv => lhs; whnf
  refine nextK_of (aop_ix rfl rfl rfl rfl (ixL_at' (n := i) hz (word_get hw) rfl)) ?_
  conv => lhs; whnf
  refine nextK_of (aop_ixO (i := rest.length) rfl rfl rfl rfl rfl hzt (by omega)) ?_
  conv => lhs; whnf
  refine nextK_of (aop_ldE rfl rfl htop rfl rfl) ?_
  conv => lhs; whnf
  refine iteK_beq_f hne ?_
  conv => lhs; whnf
  refine nextK_of cc ?_
  conv => lhs; whnf
  refine nextK_of c39 ?_
  conv => lhs; whnf
  refine nextK_of c38 ?_
  conv => lhs; whnf
  refine nextK_of (loop_at hlp (hpop _ _ rfl)) ?_
  conv => lhs; whnf
  refine iteK_dec_t hqp ?_
  conv => lhs; whnf
  refine iteK_dec_t hqp ?_
  conv => lhs; whnf
  refine iteK_dec_t hqp ?_
  conv => lhs; whnf
  refine iteK_dec_t hqp ?_
  conv => lhs; whnf
  refine iteK_dec_t hqp ?_
  conv => lhs; whnf
  refine nextK_of (aop_ix rfl rfl rfl rfl (ixL_at' (n := q.length) hqz hqg rfl)) ?_
  conv => lhs; whnf
  refine iteK_dec_t hqp ?_
  conv => lhs; whnf
  refine iteK_dec_t hqp ?_
  conv => lhs; whnf
  refine iteK_dec_t hqp ?_
  conv => lhs; whnf
  refine iteK_dec_t hqp ?_
  conv => lhs; whnf
  refine iteK_beq_f hk6 ?_
  conv => lhs; whnf
  refine iteK_beq_f hk6 ?_
  conv => lhs; whnf
  refine iteK_beq_f ha ?_
  conv => lhs; whnf
  refine iteK_beq_f ha ?_
  conv => lhs; whnf
  refine iteK_beq_f hk6 ?_
  conv => lhs; whnf
  refine iteK_beq_f ha ?_
  conv => lhs; whnf
  refine iteK_beq_f hk6 ?_
  conv => lhs; whnf
  refine nextK_of (aop_begin rfl rfl rfl rfl rfl rfl rfl rfl rfl hqa rfl rfl hqb (lenL (by omega))) ?_
  conv => lhs; whnf
  refine iteK_not ?_
  conv => lhs; whnf
  refine iteK_beq_f ha ?_
  conv => lhs; whnf
  refine nextK_of (aop_app rfl rfl rfl rfl rfl rfl rfl rfl rfl rfl rfl rfl (lenM (by omega))) ?_
  conv => lhs; whnf
  refine nextK_of (aop_ixO (i := rest.length) rfl rfl rfl rfl rfl hzt (by omega)) ?_
  conv => lhs; whnf
  refine nextK_of (aop_stE rfl rfl rfl rfl rfl htop rfl) ?_
  conv => lhs; whnf
  refine Eq.trans (hih _ rfl) ?_
  rfl
end Go.Rx07
