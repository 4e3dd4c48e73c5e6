/- A part of the proof of the law: what functions of the program come to, walked by Rx, or plain facts on it. -/
import Derived.Test.YtbeppoonnbfdeaaRxCfg07
import Derived.Test.YtbeppoonnbfdeaaRSpecE
open Go Go.Rx Go.Proofs Go.Rx07.P Go.RxTree
set_option maxRecDepth 1000000
set_option maxHeartbeats 4000000
set_option linter.unusedVariables false
set_option linter.unusedSimpArgs false
namespace Go.Rx07.P
theorem kind31 (c : UInt8) (k : Nat) (hk : 0 < k) : icall Try.prog cfg k 31 [.d (.int .u8 c.toNat)] [] = some (.ret (.d (.int .i64 (kindB c))), []) := by
  obtain ⟨k, rfl⟩ : ∃ j, k = j + 1 := ⟨k - 1, by omega⟩
  have hc := c.toNat_lt
  unfold kindB signB
  generalize c.toNat = m at *
  rw [icall_body rfl Try.func31]
  obtain ⟨lp, hlp⟩ : ∃ lp, lp = lpOf Try.prog cfg (icall Try.prog cfg k) Try.f31.ntmps 31 k (([] : Hp).map (·.1)) := ⟨_, rfl⟩
  rw [← hlp]
  conv => lhs; whnf
  refine iteK_beq (fun h1 => ?_) (fun h1 => ?_)
  · rw [beq_t h1]
    conv => lhs; whnf
    refine Eq.trans (b := some (Res.ret (AV.d (D.int IntKind.i64 (0 : Int))), [])) (by kernel_rfl) ?_
    (exact ret_i (by simp; omega))
  · rw [beq_f h1]
    conv => lhs; whnf
    refine iteK_dec (fun h2 => ?_) (fun h2 => ?_)
    · rw [dec_t h2]
      conv => lhs; whnf
      refine iteK_dec (fun h3 => ?_) (fun h3 => ?_)
      · rw [dec_t h3]
        conv => lhs; whnf
        refine Eq.trans (b := some (Res.ret (AV.d (D.int IntKind.i64 (1 : Int))), [])) (by kernel_rfl) ?_
        (exact ret_i (by simp; omega))
      · rw [dec_f h3]
        conv => lhs; whnf
        refine iteK_dec (fun h4 => ?_) (fun h4 => ?_)
        · rw [dec_t h4]
          conv => lhs; whnf
          refine iteK_dec (fun h5 => ?_) (fun h5 => ?_)
          · rw [dec_t h5]
            conv => lhs; whnf
            refine Eq.trans (b := some (Res.ret (AV.d (D.int IntKind.i64 (2 : Int))), [])) (by kernel_rfl) ?_
            (exact ret_i (by simp; omega))
          · rw [dec_f h5]
            conv => lhs; whnf
            refine iteK_beq (fun h6 => ?_) (fun h6 => ?_)
            · rw [beq_t h6]
              (exfalso; omega)
            · rw [beq_f h6]
              conv => lhs; whnf
              refine iteK_beq (fun h7 => ?_) (fun h7 => ?_)
              · rw [beq_t h7]
                (exfalso; omega)
              · rw [beq_f h7]
                conv => lhs; whnf
                refine iteK_beq (fun h8 => ?_) (fun h8 => ?_)
                · rw [beq_t h8]
                  (exfalso; omega)
                · rw [beq_f h8]
                  conv => lhs; whnf
                  refine iteK_beq (fun h9 => ?_) (fun h9 => ?_)
                  · rw [beq_t h9]
                    (exfalso; omega)
                  · rw [beq_f h9]
                    conv => lhs; whnf
                    refine iteK_beq (fun h10 => ?_) (fun h10 => ?_)
                    · rw [beq_t h10]
                      (exfalso; omega)
                    · rw [beq_f h10]
                      conv => lhs; whnf
                      refine iteK_beq (fun h11 => ?_) (fun h11 => ?_)
                      · rw [beq_t h11]
                        (exfalso; omega)
                      · rw [beq_f h11]
                        conv => lhs; whnf
                        refine iteK_beq (fun h12 => ?_) (fun h12 => ?_)
                        · rw [beq_t h12]
                          (exfalso; omega)
                        · rw [beq_f h12]
                          conv => lhs; whnf
                          refine iteK_beq (fun h13 => ?_) (fun h13 => ?_)
                          · rw [beq_t h13]
                            (exfalso; omega)
                          · rw [beq_f h13]
                            conv => lhs; whnf
                            refine iteK_beq (fun h14 => ?_) (fun h14 => ?_)
                            · rw [beq_t h14]
                              (exfalso; omega)
                            · rw [beq_f h14]
                              conv => lhs; whnf
                              refine iteK_beq (fun h15 => ?_) (fun h15 => ?_)
                              · rw [beq_t h15]
                                conv => lhs; whnf
                                refine Eq.trans (b := some (Res.ret (AV.d (D.int IntKind.i64 (3 : Int))), [])) (by kernel_rfl) ?_
                                (exact ret_i (by simp; omega))
                              · rw [beq_f h15]
                                conv => lhs; whnf
                                refine iteK_beq (fun h16 => ?_) (fun h16 => ?_)
                                · rw [beq_t h16]
                                  (exfalso; omega)
                                · rw [beq_f h16]
                                  conv => lhs; whnf
                                  refine Eq.trans (b := some (Res.ret (AV.d (D.int IntKind.i64 (-1 : Int))), [])) (by kernel_rfl) ?_
                                  (exact ret_i (by simp; omega))
        · rw [dec_f h4]
          conv => lhs; whnf
          refine iteK_beq (fun h5 => ?_) (fun h5 => ?_)
          · rw [beq_t h5]
            (exfalso; omega)
          · rw [beq_f h5]
            conv => lhs; whnf
            refine iteK_beq (fun h6 => ?_) (fun h6 => ?_)
            · rw [beq_t h6]
              (exfalso; omega)
            · rw [beq_f h6]
              conv => lhs; whnf
              refine iteK_beq (fun h7 => ?_) (fun h7 => ?_)
              · rw [beq_t h7]
                (exfalso; omega)
              · rw [beq_f h7]
                conv => lhs; whnf
                refine iteK_beq (fun h8 => ?_) (fun h8 => ?_)
                · rw [beq_t h8]
                  (exfalso; omega)
                · rw [beq_f h8]
                  conv => lhs; whnf
                  refine iteK_beq (fun h9 => ?_) (fun h9 => ?_)
                  · rw [beq_t h9]
                    conv => lhs; whnf
                    refine Eq.trans (b := some (Res.ret (AV.d (D.int IntKind.i64 (3 : Int))), [])) (by kernel_rfl) ?_
                    (exact ret_i (by simp; omega))
                  · rw [beq_f h9]
                    conv => lhs; whnf
                    refine iteK_beq (fun h10 => ?_) (fun h10 => ?_)
                    · rw [beq_t h10]
                      conv => lhs; whnf
                      refine Eq.trans (b := some (Res.ret (AV.d (D.int IntKind.i64 (3 : Int))), [])) (by kernel_rfl) ?_
                      (exact ret_i (by simp; omega))
                    · rw [beq_f h10]
                      conv => lhs; whnf
                      refine iteK_beq (fun h11 => ?_) (fun h11 => ?_)
                      · rw [beq_t h11]
                        (exfalso; omega)
                      · rw [beq_f h11]
                        conv => lhs; whnf
                        refine iteK_beq (fun h12 => ?_) (fun h12 => ?_)
                        · rw [beq_t h12]
                          (exfalso; omega)
                        · rw [beq_f h12]
                          conv => lhs; whnf
                          refine iteK_beq (fun h13 => ?_) (fun h13 => ?_)
                          · rw [beq_t h13]
                            (exfalso; omega)
                          · rw [beq_f h13]
                            conv => lhs; whnf
                            refine iteK_beq (fun h14 => ?_) (fun h14 => ?_)
                            · rw [beq_t h14]
                              (exfalso; omega)
                            · rw [beq_f h14]
                              conv => lhs; whnf
                              refine iteK_beq (fun h15 => ?_) (fun h15 => ?_)
                              · rw [beq_t h15]
                                (exfalso; omega)
                              · rw [beq_f h15]
                                conv => lhs; whnf
                                refine Eq.trans (b := some (Res.ret (AV.d (D.int IntKind.i64 (-1 : Int))), [])) (by kernel_rfl) ?_
                                (exact ret_i (by simp; omega))
    · rw [dec_f h2]
      conv => lhs; whnf
      refine iteK_dec (fun h3 => ?_) (fun h3 => ?_)
      · rw [dec_t h3]
        (exfalso; omega)
      · rw [dec_f h3]
        conv => lhs; whnf
        refine iteK_beq (fun h4 => ?_) (fun h4 => ?_)
        · rw [beq_t h4]
          conv => lhs; whnf
          refine Eq.trans (b := some (Res.ret (AV.d (D.int IntKind.i64 (3 : Int))), [])) (by kernel_rfl) ?_
          (exact ret_i (by simp; omega))
        · rw [beq_f h4]
          conv => lhs; whnf
          refine iteK_beq (fun h5 => ?_) (fun h5 => ?_)
          · rw [beq_t h5]
            conv => lhs; whnf
            refine Eq.trans (b := some (Res.ret (AV.d (D.int IntKind.i64 (3 : Int))), [])) (by kernel_rfl) ?_
            (exact ret_i (by simp; omega))
          · rw [beq_f h5]
            conv => lhs; whnf
            refine iteK_beq (fun h6 => ?_) (fun h6 => ?_)
            · rw [beq_t h6]
              conv => lhs; whnf
              refine Eq.trans (b := some (Res.ret (AV.d (D.int IntKind.i64 (3 : Int))), [])) (by kernel_rfl) ?_
              (exact ret_i (by simp; omega))
            · rw [beq_f h6]
              conv => lhs; whnf
              refine iteK_beq (fun h7 => ?_) (fun h7 => ?_)
              · rw [beq_t h7]
                conv => lhs; whnf
                refine Eq.trans (b := some (Res.ret (AV.d (D.int IntKind.i64 (3 : Int))), [])) (by kernel_rfl) ?_
                (exact ret_i (by simp; omega))
              · rw [beq_f h7]
                conv => lhs; whnf
                refine iteK_beq (fun h8 => ?_) (fun h8 => ?_)
                · rw [beq_t h8]
                  (exfalso; omega)
                · rw [beq_f h8]
                  conv => lhs; whnf
                  refine iteK_beq (fun h9 => ?_) (fun h9 => ?_)
                  · rw [beq_t h9]
                    (exfalso; omega)
                  · rw [beq_f h9]
                    conv => lhs; whnf
                    refine iteK_beq (fun h10 => ?_) (fun h10 => ?_)
                    · rw [beq_t h10]
                      conv => lhs; whnf
                      refine Eq.trans (b := some (Res.ret (AV.d (D.int IntKind.i64 (3 : Int))), [])) (by kernel_rfl) ?_
                      (exact ret_i (by simp; omega))
                    · rw [beq_f h10]
                      conv => lhs; whnf
                      refine iteK_beq (fun h11 => ?_) (fun h11 => ?_)
                      · rw [beq_t h11]
                        conv => lhs; whnf
                        refine Eq.trans (b := some (Res.ret (AV.d (D.int IntKind.i64 (3 : Int))), [])) (by kernel_rfl) ?_
                        (exact ret_i (by simp; omega))
                      · rw [beq_f h11]
                        conv => lhs; whnf
                        refine iteK_beq (fun h12 => ?_) (fun h12 => ?_)
                        · rw [beq_t h12]
                          conv => lhs; whnf
                          refine Eq.trans (b := some (Res.ret (AV.d (D.int IntKind.i64 (3 : Int))), [])) (by kernel_rfl) ?_
                          (exact ret_i (by simp; omega))
                        · rw [beq_f h12]
                          conv => lhs; whnf
                          refine iteK_beq (fun h13 => ?_) (fun h13 => ?_)
                          · rw [beq_t h13]
                            (exfalso; omega)
                          · rw [beq_f h13]
                            conv => lhs; whnf
                            refine iteK_beq (fun h14 => ?_) (fun h14 => ?_)
                            · rw [beq_t h14]
                              conv => lhs; whnf
                              refine Eq.trans (b := some (Res.ret (AV.d (D.int IntKind.i64 (3 : Int))), [])) (by kernel_rfl) ?_
                              (exact ret_i (by simp; omega))
                            · rw [beq_f h14]
                              conv => lhs; whnf
                              refine Eq.trans (b := some (Res.ret (AV.d (D.int IntKind.i64 (-1 : Int))), [])) (by kernel_rfl) ?_
                              (exact ret_i (by simp; omega))
theorem two33 (s : List UInt8) (k : Nat) (hk : 0 < k) : icall Try.prog cfg k 33 [.d (.str s)] [] = some (.ret (.d (.int .i64 (twoK s))), []) := by
  obtain ⟨k, rfl⟩ : ∃ j, k = j + 1 := ⟨k - 1, by omega⟩
  unfold twoK
  rw [icall_body rfl Try.func33]
  obtain ⟨lp, hlp⟩ : ∃ lp, lp = lpOf Try.prog cfg (icall Try.prog cfg k) Try.f33.ntmps 33 k (([] : Hp).map (·.1)) := ⟨_, rfl⟩
  rw [← hlp]
  conv => lhs; whnf
  refine iteK_beq (fun h1 => ?_) (fun h1 => ?_)
  · obtain rfl : s = [(124 : UInt8)] := h1
    conv => lhs; whnf
    refine Eq.trans (b := some (Res.ret (AV.d (D.int IntKind.i64 (14 : Int))), [])) (by kernel_rfl) ?_
    rfl
  · rw [beq_f h1]
    conv => lhs; whnf
    refine iteK_beq (fun h2 => ?_) (fun h2 => ?_)
    · obtain rfl : s = [(38 : UInt8)] := h2
      conv => lhs; whnf
      refine Eq.trans (b := some (Res.ret (AV.d (D.int IntKind.i64 (13 : Int))), [])) (by kernel_rfl) ?_
      rfl
    · rw [beq_f h2]
      conv => lhs; whnf
      refine iteK_beq (fun h3 => ?_) (fun h3 => ?_)
      · obtain rfl : s = [(61 : UInt8)] := h3
        conv => lhs; whnf
        refine Eq.trans (b := some (Res.ret (AV.d (D.int IntKind.i64 (11 : Int))), [])) (by kernel_rfl) ?_
        rfl
      · rw [beq_f h3]
        conv => lhs; whnf
        refine iteK_beq (fun h4 => ?_) (fun h4 => ?_)
        · obtain rfl : s = [(60 : UInt8)] := h4
          conv => lhs; whnf
          refine Eq.trans (b := some (Res.ret (AV.d (D.int IntKind.i64 (12 : Int))), [])) (by kernel_rfl) ?_
          rfl
        · rw [beq_f h4]
          conv => lhs; whnf
          refine iteK_beq (fun h5 => ?_) (fun h5 => ?_)
          · obtain rfl : s = [(43 : UInt8)] := h5
            conv => lhs; whnf
            refine Eq.trans (b := some (Res.ret (AV.d (D.int IntKind.i64 (7 : Int))), [])) (by kernel_rfl) ?_
            rfl
          · rw [beq_f h5]
            conv => lhs; whnf
            refine iteK_beq (fun h6 => ?_) (fun h6 => ?_)
            · obtain rfl : s = [(45 : UInt8)] := h6
              conv => lhs; whnf
              refine Eq.trans (b := some (Res.ret (AV.d (D.int IntKind.i64 (8 : Int))), [])) (by kernel_rfl) ?_
              rfl
            · rw [beq_f h6]
              conv => lhs; whnf
              refine iteK_beq (fun h7 => ?_) (fun h7 => ?_)
              · obtain rfl : s = [(42 : UInt8)] := h7
                conv => lhs; whnf
                refine Eq.trans (b := some (Res.ret (AV.d (D.int IntKind.i64 (9 : Int))), [])) (by kernel_rfl) ?_
                rfl
              · rw [beq_f h7]
                conv => lhs; whnf
                refine iteK_beq (fun h8 => ?_) (fun h8 => ?_)
                · obtain rfl : s = [(47 : UInt8)] := h8
                  conv => lhs; whnf
                  refine Eq.trans (b := some (Res.ret (AV.d (D.int IntKind.i64 (10 : Int))), [])) (by kernel_rfl) ?_
                  rfl
                · rw [beq_f h8]
                  conv => lhs; whnf
                  refine Eq.trans (b := some (Res.ret (AV.d (D.int IntKind.i64 (0 : Int))), [])) (by kernel_rfl) ?_
                  (exact ret_i (by simp [*]))
theorem level35 (x : Int) (k : Nat) (hk : 0 < k) : icall Try.prog cfg k 35 [.d (.int .i64 x)] [] = some (.ret (.d (.int .i64 (levelK x))), []) := by
  obtain ⟨k, rfl⟩ : ∃ j, k = j + 1 := ⟨k - 1, by omega⟩
  unfold levelK
  rw [icall_body rfl Try.func35]
  obtain ⟨lp, hlp⟩ : ∃ lp, lp = lpOf Try.prog cfg (icall Try.prog cfg k) Try.f35.ntmps 35 k (([] : Hp).map (·.1)) := ⟨_, rfl⟩
  rw [← hlp]
  conv => lhs; whnf
  refine iteK_beq (fun h1 => ?_) (fun h1 => ?_)
  · obtain rfl : x = (14 : Int) := h1
    conv => lhs; whnf
    refine Eq.trans (b := some (Res.ret (AV.d (D.int IntKind.i64 (1 : Int))), [])) (by kernel_rfl) ?_
    rfl
  · rw [beq_f h1]
    conv => lhs; whnf
    refine iteK_beq (fun h2 => ?_) (fun h2 => ?_)
    · obtain rfl : x = (13 : Int) := h2
      conv => lhs; whnf
      refine Eq.trans (b := some (Res.ret (AV.d (D.int IntKind.i64 (2 : Int))), [])) (by kernel_rfl) ?_
      rfl
    · rw [beq_f h2]
      conv => lhs; whnf
      refine iteK_beq (fun h3 => ?_) (fun h3 => ?_)
      · obtain rfl : x = (11 : Int) := h3
        conv => lhs; whnf
        refine Eq.trans (b := some (Res.ret (AV.d (D.int IntKind.i64 (3 : Int))), [])) (by kernel_rfl) ?_
        rfl
      · rw [beq_f h3]
        conv => lhs; whnf
        refine iteK_beq (fun h4 => ?_) (fun h4 => ?_)
        · obtain rfl : x = (12 : Int) := h4
          conv => lhs; whnf
          refine Eq.trans (b := some (Res.ret (AV.d (D.int IntKind.i64 (3 : Int))), [])) (by kernel_rfl) ?_
          rfl
        · rw [beq_f h4]
          conv => lhs; whnf
          refine iteK_beq (fun h5 => ?_) (fun h5 => ?_)
          · obtain rfl : x = (7 : Int) := h5
            conv => lhs; whnf
            refine Eq.trans (b := some (Res.ret (AV.d (D.int IntKind.i64 (4 : Int))), [])) (by kernel_rfl) ?_
            rfl
          · rw [beq_f h5]
            conv => lhs; whnf
            refine iteK_beq (fun h6 => ?_) (fun h6 => ?_)
            · obtain rfl : x = (8 : Int) := h6
              conv => lhs; whnf
              refine Eq.trans (b := some (Res.ret (AV.d (D.int IntKind.i64 (4 : Int))), [])) (by kernel_rfl) ?_
              rfl
            · rw [beq_f h6]
              conv => lhs; whnf
              refine iteK_beq (fun h7 => ?_) (fun h7 => ?_)
              · obtain rfl : x = (9 : Int) := h7
                conv => lhs; whnf
                refine Eq.trans (b := some (Res.ret (AV.d (D.int IntKind.i64 (5 : Int))), [])) (by kernel_rfl) ?_
                rfl
              · rw [beq_f h7]
                conv => lhs; whnf
                refine iteK_beq (fun h8 => ?_) (fun h8 => ?_)
                · obtain rfl : x = (10 : Int) := h8
                  conv => lhs; whnf
                  refine Eq.trans (b := some (Res.ret (AV.d (D.int IntKind.i64 (5 : Int))), [])) (by kernel_rfl) ?_
                  rfl
                · rw [beq_f h8]
                  conv => lhs; whnf
                  refine Eq.trans (b := some (Res.ret (AV.d (D.int IntKind.i64 (6 : Int))), [])) (by kernel_rfl) ?_
                  (exact ret_i (by simp [*]))
/-- The parser's three cells. -/
abbrev paH (l : List W) (i : Nat) (e : Int) : Hp := [(.arg 0, .cells [.d (.list (l.map W.cells)), .d (.int .i64 i), .d (.int .i64 e)])]
theorem sign34 (l : List W) (i : Nat) (e : Int) (k : Nat) (hk : 0 < k) : icall Try.prog cfg k 34 [.ptr (.arg 0) 0] (paH l i e) = some (.ret (.d (.str (signL l i))), paH l i e) := by
  obtain ⟨k, rfl⟩ : ∃ j, k = j + 1 := ⟨k - 1, by omega⟩
  have hl : (l.map W.cells).length = l.length := List.length_map ..
  by_cases h : i < l.length
  · have hx : l[i]? = some l[i] := List.getElem?_eq_getElem h
    generalize l[i] = w at hx
    have hs : signL l i = if w.k = 3 then w.t else [] := by unfold signL; rw [hx]
    rw [hs]
    by_cases g1 : w.k = 3
    · rw [if_pos g1]
      rw [icall_body rfl Try.func34]
      obtain ⟨lp, hlp⟩ : ∃ lp, lp = lpOf Try.prog cfg (icall Try.prog cfg k) Try.f34.ntmps 34 k ((paH l i e).map (·.1)) := ⟨_, rfl⟩
      rw [← hlp]
      conv => lhs; whnf
      refine iteO_t (by kernel_rfl) ?_
      conv => lhs; whnf
      refine iteK_dec (fun h1 => ?_) (fun h1 => ?_)
      · rw [dec_t h1]
        conv => lhs; whnf
        refine nextK_of (aop_ix rfl rfl rfl rfl (ixL_at' (n := i) rfl (word_get hx) rfl)) ?_
        conv => lhs; whnf
        refine iteO_t (by kernel_rfl) ?_
        conv => lhs; whnf
        refine iteK_beq_t g1 ?_
        conv => lhs; whnf
        refine iteO_t (by kernel_rfl) ?_
        conv => lhs; whnf
        refine nextK_of (aop_ix rfl rfl rfl rfl (ixL_at' (n := i) rfl (word_get hx) rfl)) ?_
        conv => lhs; whnf
        refine iteO_t (by kernel_rfl) ?_
        conv => lhs; whnf
        refine Eq.trans (b := some (Res.ret (AV.d (D.str w.t)), [(Nm.arg (0 : Nat), AObj.cells [AV.d (D.list (List.map W.cells l)), AV.d (D.int IntKind.i64 ↑i), AV.d (D.int IntKind.i64 e)])])) (by kernel_rfl) ?_
        rfl
      · rw [dec_f h1]
        (exfalso; omega)
    · rw [if_neg g1]
      rw [icall_body rfl Try.func34]
      obtain ⟨lp, hlp⟩ : ∃ lp, lp = lpOf Try.prog cfg (icall Try.prog cfg k) Try.f34.ntmps 34 k ((paH l i e).map (·.1)) := ⟨_, rfl⟩
      rw [← hlp]
      conv => lhs; whnf
      refine iteO_t (by kernel_rfl) ?_
      conv => lhs; whnf
      refine iteK_dec (fun h1 => ?_) (fun h1 => ?_)
      · rw [dec_t h1]
        conv => lhs; whnf
        refine nextK_of (aop_ix rfl rfl rfl rfl (ixL_at' (n := i) rfl (word_get hx) rfl)) ?_
        conv => lhs; whnf
        refine iteO_t (by kernel_rfl) ?_
        conv => lhs; whnf
        refine iteK_beq_f g1 ?_
        conv => lhs; whnf
        refine Eq.trans (b := some (Res.ret (AV.d (D.str [])), [(Nm.arg (0 : Nat), AObj.cells [AV.d (D.list (List.map W.cells l)), AV.d (D.int IntKind.i64 ↑i), AV.d (D.int IntKind.i64 e)])])) (by kernel_rfl) ?_
        rfl
      · rw [dec_f h1]
        (exfalso; omega)
  · have hs : signL l i = [] := by unfold signL; rw [List.getElem?_eq_none (by omega)]
    rw [hs]
    rw [icall_body rfl Try.func34]
    obtain ⟨lp, hlp⟩ : ∃ lp, lp = lpOf Try.prog cfg (icall Try.prog cfg k) Try.f34.ntmps 34 k ((paH l i e).map (·.1)) := ⟨_, rfl⟩
    rw [← hlp]
    conv => lhs; whnf
    refine iteO_t (by kernel_rfl) ?_
    conv => lhs; whnf
    refine iteK_dec (fun h1 => ?_) (fun h1 => ?_)
    · rw [dec_t h1]
      (exfalso; omega)
    · rw [dec_f h1]
      conv => lhs; whnf
      refine iteO_t (by kernel_rfl) ?_
      conv => lhs; whnf
      refine Eq.trans (b := some (Res.ret (AV.d (D.str [])), [(Nm.arg (0 : Nat), AObj.cells [AV.d (D.list (List.map W.cells l)), AV.d (D.int IntKind.i64 ↑i), AV.d (D.int IntKind.i64 e)])])) (by kernel_rfl) ?_
      rfl
theorem fail22 (l : List W) (i : Nat) (e : Int) (er : Int) (k : Nat) (hk : 0 < k) : icall Try.prog cfg k 22 [.ptr (.arg 0) 0, .d (.int .i64 er)] (paH l i e) = some (.pan (.iface 28 (.agg [.d (.int .i64 er), .d (.int .i64 (atL l i e))])), paH l i e) := by
  obtain ⟨k, rfl⟩ : ∃ j, k = j + 1 := ⟨k - 1, by omega⟩
  have hl : (l.map W.cells).length = l.length := List.length_map ..
  by_cases h : i < l.length
  · have hx : l[i]? = some l[i] := List.getElem?_eq_getElem h
    generalize l[i] = w at hx
    have hs : atL l i e = w.at' := by unfold atL; rw [hx]
    rw [hs]
    rw [icall_body rfl Try.func22]
    obtain ⟨lp, hlp⟩ : ∃ lp, lp = lpOf Try.prog cfg (icall Try.prog cfg k) Try.f22.ntmps 22 k ((paH l i e).map (·.1)) := ⟨_, rfl⟩
    rw [← hlp]
    conv => lhs; whnf
    refine iteO_t (by kernel_rfl) ?_
    conv => lhs; whnf
    refine iteO_t (by kernel_rfl) ?_
    conv => lhs; whnf
    refine iteK_dec (fun h1 => ?_) (fun h1 => ?_)
    · rw [dec_t h1]
      conv => lhs; whnf
      refine iteO_t (by kernel_rfl) ?_
      conv => lhs; whnf
      refine nextK_of (aop_ix rfl rfl rfl rfl (ixL_at' (n := i) rfl (word_get hx) rfl)) ?_
      conv => lhs; whnf
      refine iteO_t (by kernel_rfl) ?_
      conv => lhs; whnf
      refine Eq.trans (b := some (Res.pan (AV.iface (28 : Nat) (AV.agg [AV.d (D.int IntKind.i64 er), AV.d (D.int IntKind.i64 w.at')])), [(Nm.arg (0 : Nat), AObj.cells [AV.d (D.list (List.map W.cells l)), AV.d (D.int IntKind.i64 ↑i), AV.d (D.int IntKind.i64 e)])])) (by kernel_rfl) ?_
      rfl
    · rw [dec_f h1]
      (exfalso; omega)
  · have hs : atL l i e = e := by unfold atL; rw [List.getElem?_eq_none (by omega)]
    rw [hs]
    rw [icall_body rfl Try.func22]
    obtain ⟨lp, hlp⟩ : ∃ lp, lp = lpOf Try.prog cfg (icall Try.prog cfg k) Try.f22.ntmps 22 k ((paH l i e).map (·.1)) := ⟨_, rfl⟩
    rw [← hlp]
    conv => lhs; whnf
    refine iteO_t (by kernel_rfl) ?_
    conv => lhs; whnf
    refine iteO_t (by kernel_rfl) ?_
    conv => lhs; whnf
    refine iteK_dec (fun h1 => ?_) (fun h1 => ?_)
    · rw [dec_t h1]
      (exfalso; omega)
    · rw [dec_f h1]
      conv => lhs; whnf
      refine Eq.trans (b := some (Res.pan (AV.iface (28 : Nat) (AV.agg [AV.d (D.int IntKind.i64 er), AV.d (D.int IntKind.i64 e)])), [(Nm.arg (0 : Nat), AObj.cells [AV.d (D.list (List.map W.cells l)), AV.d (D.int IntKind.i64 ↑i), AV.d (D.int IntKind.i64 e)])])) (by kernel_rfl) ?_
      rfl
end Go.Rx07.P
