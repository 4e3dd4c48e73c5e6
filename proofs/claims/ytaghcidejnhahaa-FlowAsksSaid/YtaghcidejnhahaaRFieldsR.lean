/- A part of the proof of the law: what functions of the program come to, walked by Rx, or plain facts on it. -/
import Derived.Test.YtaghcidejnhahaaRxCfg12
import Derived.Test.YtaghcidejnhahaaRFields
open Go Go.Rx Go.Proofs Go.Rx12 Go.RxTree
set_option maxRecDepth 1000000
set_option maxHeartbeats 4000000
set_option linter.unusedVariables false
set_option linter.unusedSimpArgs false
namespace Go.Rx12
theorem fields34_1 (s : List UInt8) (n : Int) (a : List T) (o : List FlowT) (hs : s.length ≤ 140737488351232) (ha : SmL a) (hok : OkL a) (k : Nat) (hk : s.length + wtL a + 8 < k) :
    icall Try.prog cfg k 35 [.agg [.d (.int .i64 1), .d (.str s), .d (.int .i64 n), .d (.list (cellsL a)), .d (.list (o.map FlowT.cells))]] [] = some (.ret (.d (.int .i64 (fieldsS ⟨1, s, n, a, o⟩))), []) := by
  obtain ⟨k, rfl⟩ : ∃ j, k = j + 1 := ⟨k - 1, by omega⟩
  have hl := cellsL_len a
  have hl2 : (o.map FlowT.cells).length = o.length := List.length_map ..
  obtain ⟨y, hy, hy0⟩ := arg_first a
  have hwl := wtL_len a
  have hc : a.length ≠ 0 → icall Try.prog cfg k 49 [y.av, .d (.bool false)] [] = some (.ret (.d (.int .i64 (typedS y false))), []) := fun h => typed71 y false (SmL_mem ha (List.mem_of_getElem? (hy h).1)) (OkL_mem hok (List.mem_of_getElem? (hy h).1)) k (by have := wtL_mem a y (List.mem_of_getElem? (hy h).1); omega)
  have ea : asksK 1 = false := rfl
  have el : leastK 1 = 1 := rfl
  have em : mostK 1 = 1 := rfl
  rw [icall_body rfl Try.func35]
  obtain ⟨lp, hlp⟩ : ∃ lp, lp = lpOf Try.prog cfg (icall Try.prog cfg k) Try.f35.ntmps 35 k (([] : Hp).map (·.1)) := ⟨_, rfl⟩
  rw [← hlp]
  conv => lhs; whnf
  refine nextK_of (named67 1 k (by omega)) ?_
  conv => lhs; whnf
  refine iteK_not ?_
  conv => lhs; whnf
  refine iteK_beq (fun h1 => ?_) (fun h1 => ?_)
  · obtain rfl : s = [] := h1
    conv => lhs; whnf
    refine iteK_dec (fun h2 => ?_) (fun h2 => ?_)
    · rw [dec_t h2]
      conv => lhs; whnf
      refine Eq.trans (b := some (Res.ret (AV.d (D.int IntKind.i64 (2 : Int))), [])) (by kernel_rfl) ?_
      exact ret_i (F3 (by omega) (badN_1 rfl (by first | rfl | assumption)) (by omega)).symm
    · rw [dec_f h2]
      conv => lhs; whnf
      refine iteK_dec (fun h3 => ?_) (fun h3 => ?_)
      · rw [dec_t h3]
        conv => lhs; whnf
        refine Eq.trans (b := some (Res.ret (AV.d (D.int IntKind.i64 (2 : Int))), [])) (by kernel_rfl) ?_
        exact ret_i (F3 (by omega) (badN_1 rfl (by first | rfl | assumption)) (by omega)).symm
      · rw [dec_f h3]
        conv => lhs; whnf
        refine iteK_dec (fun h4 => ?_) (fun h4 => ?_)
        · rw [dec_t h4]
          conv => lhs; whnf
          refine nextK_of (numb68 1 k (by omega)) ?_
          conv => lhs; whnf
          refine Eq.trans (b := some (Res.ret (AV.d (D.int IntKind.i64 (2 : Int))), [])) (by kernel_rfl) ?_
          exact ret_i (F3 (by omega) (badN_1 rfl (by first | rfl | assumption)) (by omega)).symm
        · rw [dec_f h4]
          conv => lhs; whnf
          refine nextK_of (asks69 1 k (by omega)) ?_
          conv => lhs; whnf
          refine iteK_bne (fun h5 => ?_) (fun h5 => ?_)
          · rw [bne_t h5]
            conv => lhs; whnf
            refine Eq.trans (b := some (Res.ret (AV.d (D.int IntKind.i64 (1 : Int))), [])) (by kernel_rfl) ?_
            ((try simp only [ea, ab_1, ab_2, ab_3, ab_4] at *); exact ret_i (F4 (by omega) (badN_1 rfl (by first | rfl | assumption)) (by omega) (by show (a.length : Int) ≠ 0; omega)).symm)
          · rw [bne_f h5]
            conv => lhs; whnf
            refine nextK_of (ways70 1 k (by omega)) ?_
            conv => lhs; whnf
            refine iteK_dec (fun h6 => ?_) (fun h6 => ?_)
            · rw [dec_t h6]
              conv => lhs; whnf
              refine Eq.trans (b := some (Res.ret (AV.d (D.int IntKind.i64 (8 : Int))), [])) (by kernel_rfl) ?_
              ((try simp only [ea, ab_1, ab_2, ab_3, ab_4] at *); exact ret_i (F5 (by omega) (badN_1 rfl (by first | rfl | assumption)) (by omega) (by show (a.length : Int) = 0; omega) (by show (o.length : Int) < 1 ∨ (o.length : Int) > 1; omega)).symm)
            · rw [dec_f h6]
              conv => lhs; whnf
              refine iteK_dec (fun h7 => ?_) (fun h7 => ?_)
              · rw [dec_t h7]
                conv => lhs; whnf
                refine Eq.trans (b := some (Res.ret (AV.d (D.int IntKind.i64 (8 : Int))), [])) (by kernel_rfl) ?_
                ((try simp only [ea, ab_1, ab_2, ab_3, ab_4] at *); exact ret_i (F5 (by omega) (badN_1 rfl (by first | rfl | assumption)) (by omega) (by show (a.length : Int) = 0; omega) (by show (o.length : Int) < 1 ∨ (o.length : Int) > 1; omega)).symm)
              · rw [dec_f h7]
                conv => lhs; whnf
                refine Eq.trans (b := some (Res.ret (AV.d (D.int IntKind.i64 (0 : Int))), [])) (by kernel_rfl) ?_
                ((try simp only [ea, ab_1, ab_2, ab_3, ab_4] at *); exact ret_i ((F6 (by omega) (badN_1 rfl (by first | rfl | assumption)) (by omega) (by show (a.length : Int) = 0; omega) (by show ¬((o.length : Int) < 1 ∨ (o.length : Int) > 1); omega)).trans (hy0 (by omega))).symm)
  · rw [beq_f h1]
    conv => lhs; whnf
    refine Eq.trans (b := some (Res.ret (AV.d (D.int IntKind.i64 (1 : Int))), [])) (by kernel_rfl) ?_
    exact ret_i (F2 (by omega) (badN_2 rfl (by assumption))).symm
theorem fields34_2 (s : List UInt8) (n : Int) (a : List T) (o : List FlowT) (hs : s.length ≤ 140737488351232) (ha : SmL a) (hok : OkL a) (k : Nat) (hk : s.length + wtL a + 8 < k) :
    icall Try.prog cfg k 35 [.agg [.d (.int .i64 2), .d (.str s), .d (.int .i64 n), .d (.list (cellsL a)), .d (.list (o.map FlowT.cells))]] [] = some (.ret (.d (.int .i64 (fieldsS ⟨2, s, n, a, o⟩))), []) := by
  obtain ⟨k, rfl⟩ : ∃ j, k = j + 1 := ⟨k - 1, by omega⟩
  have hl := cellsL_len a
  have hl2 : (o.map FlowT.cells).length = o.length := List.length_map ..
  obtain ⟨y, hy, hy0⟩ := arg_first a
  have hwl := wtL_len a
  have hc : a.length ≠ 0 → icall Try.prog cfg k 49 [y.av, .d (.bool false)] [] = some (.ret (.d (.int .i64 (typedS y false))), []) := fun h => typed71 y false (SmL_mem ha (List.mem_of_getElem? (hy h).1)) (OkL_mem hok (List.mem_of_getElem? (hy h).1)) k (by have := wtL_mem a y (List.mem_of_getElem? (hy h).1); omega)
  have ea : asksK 2 = false := rfl
  have el : leastK 2 = 1 := rfl
  have em : mostK 2 = 1 := rfl
  rw [icall_body rfl Try.func35]
  obtain ⟨lp, hlp⟩ : ∃ lp, lp = lpOf Try.prog cfg (icall Try.prog cfg k) Try.f35.ntmps 35 k (([] : Hp).map (·.1)) := ⟨_, rfl⟩
  rw [← hlp]
  conv => lhs; whnf
  refine nextK_of (named67 2 k (by omega)) ?_
  conv => lhs; whnf
  refine nextK_b (refName_w s (by unfold lim; omega) k (by omega)) (fun h1 => ?_) (fun h1 => ?_)
  · conv => lhs; whnf
    refine iteK_dec (fun h2 => ?_) (fun h2 => ?_)
    · rw [dec_t h2]
      conv => lhs; whnf
      refine Eq.trans (b := some (Res.ret (AV.d (D.int IntKind.i64 (2 : Int))), [])) (by kernel_rfl) ?_
      exact ret_i (F3 (by omega) (badN_4 rfl (by decide) (by assumption)) (by omega)).symm
    · rw [dec_f h2]
      conv => lhs; whnf
      refine iteK_dec (fun h3 => ?_) (fun h3 => ?_)
      · rw [dec_t h3]
        conv => lhs; whnf
        refine Eq.trans (b := some (Res.ret (AV.d (D.int IntKind.i64 (2 : Int))), [])) (by kernel_rfl) ?_
        exact ret_i (F3 (by omega) (badN_4 rfl (by decide) (by assumption)) (by omega)).symm
      · rw [dec_f h3]
        conv => lhs; whnf
        refine iteK_dec (fun h4 => ?_) (fun h4 => ?_)
        · rw [dec_t h4]
          conv => lhs; whnf
          refine nextK_of (numb68 2 k (by omega)) ?_
          conv => lhs; whnf
          refine nextK_of (asks69 2 k (by omega)) ?_
          conv => lhs; whnf
          refine iteK_bne (fun h5 => ?_) (fun h5 => ?_)
          · rw [bne_t h5]
            conv => lhs; whnf
            refine Eq.trans (b := some (Res.ret (AV.d (D.int IntKind.i64 (1 : Int))), [])) (by kernel_rfl) ?_
            ((try simp only [ea, ab_1, ab_2, ab_3, ab_4] at *); exact ret_i (F4 (by omega) (badN_4 rfl (by decide) (by assumption)) (by omega) (by show (a.length : Int) ≠ 0; omega)).symm)
          · rw [bne_f h5]
            conv => lhs; whnf
            refine nextK_of (ways70 2 k (by omega)) ?_
            conv => lhs; whnf
            refine iteK_dec (fun h6 => ?_) (fun h6 => ?_)
            · rw [dec_t h6]
              conv => lhs; whnf
              refine Eq.trans (b := some (Res.ret (AV.d (D.int IntKind.i64 (8 : Int))), [])) (by kernel_rfl) ?_
              ((try simp only [ea, ab_1, ab_2, ab_3, ab_4] at *); exact ret_i (F5 (by omega) (badN_4 rfl (by decide) (by assumption)) (by omega) (by show (a.length : Int) = 0; omega) (by show (o.length : Int) < 1 ∨ (o.length : Int) > 1; omega)).symm)
            · rw [dec_f h6]
              conv => lhs; whnf
              refine iteK_dec (fun h7 => ?_) (fun h7 => ?_)
              · rw [dec_t h7]
                conv => lhs; whnf
                refine Eq.trans (b := some (Res.ret (AV.d (D.int IntKind.i64 (8 : Int))), [])) (by kernel_rfl) ?_
                ((try simp only [ea, ab_1, ab_2, ab_3, ab_4] at *); exact ret_i (F5 (by omega) (badN_4 rfl (by decide) (by assumption)) (by omega) (by show (a.length : Int) = 0; omega) (by show (o.length : Int) < 1 ∨ (o.length : Int) > 1; omega)).symm)
              · rw [dec_f h7]
                conv => lhs; whnf
                refine Eq.trans (b := some (Res.ret (AV.d (D.int IntKind.i64 (0 : Int))), [])) (by kernel_rfl) ?_
                ((try simp only [ea, ab_1, ab_2, ab_3, ab_4] at *); exact ret_i ((F6 (by omega) (badN_4 rfl (by decide) (by assumption)) (by omega) (by show (a.length : Int) = 0; omega) (by show ¬((o.length : Int) < 1 ∨ (o.length : Int) > 1); omega)).trans (hy0 (by omega))).symm)
        · rw [dec_f h4]
          conv => lhs; whnf
          refine nextK_of (asks69 2 k (by omega)) ?_
          conv => lhs; whnf
          refine iteK_bne (fun h5 => ?_) (fun h5 => ?_)
          · rw [bne_t h5]
            conv => lhs; whnf
            refine Eq.trans (b := some (Res.ret (AV.d (D.int IntKind.i64 (1 : Int))), [])) (by kernel_rfl) ?_
            ((try simp only [ea, ab_1, ab_2, ab_3, ab_4] at *); exact ret_i (F4 (by omega) (badN_4 rfl (by decide) (by assumption)) (by omega) (by show (a.length : Int) ≠ 0; omega)).symm)
          · rw [bne_f h5]
            conv => lhs; whnf
            refine nextK_of (ways70 2 k (by omega)) ?_
            conv => lhs; whnf
            refine iteK_dec (fun h6 => ?_) (fun h6 => ?_)
            · rw [dec_t h6]
              conv => lhs; whnf
              refine Eq.trans (b := some (Res.ret (AV.d (D.int IntKind.i64 (8 : Int))), [])) (by kernel_rfl) ?_
              ((try simp only [ea, ab_1, ab_2, ab_3, ab_4] at *); exact ret_i (F5 (by omega) (badN_4 rfl (by decide) (by assumption)) (by omega) (by show (a.length : Int) = 0; omega) (by show (o.length : Int) < 1 ∨ (o.length : Int) > 1; omega)).symm)
            · rw [dec_f h6]
              conv => lhs; whnf
              refine iteK_dec (fun h7 => ?_) (fun h7 => ?_)
              · rw [dec_t h7]
                conv => lhs; whnf
                refine Eq.trans (b := some (Res.ret (AV.d (D.int IntKind.i64 (8 : Int))), [])) (by kernel_rfl) ?_
                ((try simp only [ea, ab_1, ab_2, ab_3, ab_4] at *); exact ret_i (F5 (by omega) (badN_4 rfl (by decide) (by assumption)) (by omega) (by show (a.length : Int) = 0; omega) (by show (o.length : Int) < 1 ∨ (o.length : Int) > 1; omega)).symm)
              · rw [dec_f h7]
                conv => lhs; whnf
                refine Eq.trans (b := some (Res.ret (AV.d (D.int IntKind.i64 (0 : Int))), [])) (by kernel_rfl) ?_
                ((try simp only [ea, ab_1, ab_2, ab_3, ab_4] at *); exact ret_i ((F6 (by omega) (badN_4 rfl (by decide) (by assumption)) (by omega) (by show (a.length : Int) = 0; omega) (by show ¬((o.length : Int) < 1 ∨ (o.length : Int) > 1); omega)).trans (hy0 (by omega))).symm)
  · conv => lhs; whnf
    refine Eq.trans (b := some (Res.ret (AV.d (D.int IntKind.i64 (1 : Int))), [])) (by kernel_rfl) ?_
    exact ret_i (F2 (by omega) (badN_3 rfl (by assumption))).symm
theorem fields34_3 (s : List UInt8) (n : Int) (a : List T) (o : List FlowT) (hs : s.length ≤ 140737488351232) (ha : SmL a) (hok : OkL a) (k : Nat) (hk : s.length + wtL a + 8 < k) :
    icall Try.prog cfg k 35 [.agg [.d (.int .i64 3), .d (.str s), .d (.int .i64 n), .d (.list (cellsL a)), .d (.list (o.map FlowT.cells))]] [] = some (.ret (.d (.int .i64 (fieldsS ⟨3, s, n, a, o⟩))), []) := by
  obtain ⟨k, rfl⟩ : ∃ j, k = j + 1 := ⟨k - 1, by omega⟩
  have hl := cellsL_len a
  have hl2 : (o.map FlowT.cells).length = o.length := List.length_map ..
  obtain ⟨y, hy, hy0⟩ := arg_first a
  have hwl := wtL_len a
  have hc : a.length ≠ 0 → icall Try.prog cfg k 49 [y.av, .d (.bool false)] [] = some (.ret (.d (.int .i64 (typedS y false))), []) := fun h => typed71 y false (SmL_mem ha (List.mem_of_getElem? (hy h).1)) (OkL_mem hok (List.mem_of_getElem? (hy h).1)) k (by have := wtL_mem a y (List.mem_of_getElem? (hy h).1); omega)
  have ea : asksK 3 = false := rfl
  have el : leastK 3 = 1 := rfl
  have em : mostK 3 = 16 := rfl
  rw [icall_body rfl Try.func35]
  obtain ⟨lp, hlp⟩ : ∃ lp, lp = lpOf Try.prog cfg (icall Try.prog cfg k) Try.f35.ntmps 35 k (([] : Hp).map (·.1)) := ⟨_, rfl⟩
  rw [← hlp]
  conv => lhs; whnf
  refine nextK_of (named67 3 k (by omega)) ?_
  conv => lhs; whnf
  refine iteK_not ?_
  conv => lhs; whnf
  refine iteK_beq (fun h1 => ?_) (fun h1 => ?_)
  · obtain rfl : s = [] := h1
    conv => lhs; whnf
    refine iteK_dec (fun h2 => ?_) (fun h2 => ?_)
    · rw [dec_t h2]
      conv => lhs; whnf
      refine Eq.trans (b := some (Res.ret (AV.d (D.int IntKind.i64 (2 : Int))), [])) (by kernel_rfl) ?_
      exact ret_i (F3 (by omega) (badN_1 rfl (by first | rfl | assumption)) (by omega)).symm
    · rw [dec_f h2]
      conv => lhs; whnf
      refine iteK_dec (fun h3 => ?_) (fun h3 => ?_)
      · rw [dec_t h3]
        conv => lhs; whnf
        refine Eq.trans (b := some (Res.ret (AV.d (D.int IntKind.i64 (2 : Int))), [])) (by kernel_rfl) ?_
        exact ret_i (F3 (by omega) (badN_1 rfl (by first | rfl | assumption)) (by omega)).symm
      · rw [dec_f h3]
        conv => lhs; whnf
        refine iteK_dec (fun h4 => ?_) (fun h4 => ?_)
        · rw [dec_t h4]
          conv => lhs; whnf
          refine nextK_of (numb68 3 k (by omega)) ?_
          conv => lhs; whnf
          refine Eq.trans (b := some (Res.ret (AV.d (D.int IntKind.i64 (2 : Int))), [])) (by kernel_rfl) ?_
          exact ret_i (F3 (by omega) (badN_1 rfl (by first | rfl | assumption)) (by omega)).symm
        · rw [dec_f h4]
          conv => lhs; whnf
          refine nextK_of (asks69 3 k (by omega)) ?_
          conv => lhs; whnf
          refine iteK_bne (fun h5 => ?_) (fun h5 => ?_)
          · rw [bne_t h5]
            conv => lhs; whnf
            refine Eq.trans (b := some (Res.ret (AV.d (D.int IntKind.i64 (1 : Int))), [])) (by kernel_rfl) ?_
            ((try simp only [ea, ab_1, ab_2, ab_3, ab_4] at *); exact ret_i (F4 (by omega) (badN_1 rfl (by first | rfl | assumption)) (by omega) (by show (a.length : Int) ≠ 0; omega)).symm)
          · rw [bne_f h5]
            conv => lhs; whnf
            refine nextK_of (ways70 3 k (by omega)) ?_
            conv => lhs; whnf
            refine iteK_dec (fun h6 => ?_) (fun h6 => ?_)
            · rw [dec_t h6]
              conv => lhs; whnf
              refine Eq.trans (b := some (Res.ret (AV.d (D.int IntKind.i64 (8 : Int))), [])) (by kernel_rfl) ?_
              ((try simp only [ea, ab_1, ab_2, ab_3, ab_4] at *); exact ret_i (F5 (by omega) (badN_1 rfl (by first | rfl | assumption)) (by omega) (by show (a.length : Int) = 0; omega) (by show (o.length : Int) < 1 ∨ (o.length : Int) > 16; omega)).symm)
            · rw [dec_f h6]
              conv => lhs; whnf
              refine iteK_dec (fun h7 => ?_) (fun h7 => ?_)
              · rw [dec_t h7]
                conv => lhs; whnf
                refine Eq.trans (b := some (Res.ret (AV.d (D.int IntKind.i64 (8 : Int))), [])) (by kernel_rfl) ?_
                ((try simp only [ea, ab_1, ab_2, ab_3, ab_4] at *); exact ret_i (F5 (by omega) (badN_1 rfl (by first | rfl | assumption)) (by omega) (by show (a.length : Int) = 0; omega) (by show (o.length : Int) < 1 ∨ (o.length : Int) > 16; omega)).symm)
              · rw [dec_f h7]
                conv => lhs; whnf
                refine Eq.trans (b := some (Res.ret (AV.d (D.int IntKind.i64 (0 : Int))), [])) (by kernel_rfl) ?_
                ((try simp only [ea, ab_1, ab_2, ab_3, ab_4] at *); exact ret_i ((F6 (by omega) (badN_1 rfl (by first | rfl | assumption)) (by omega) (by show (a.length : Int) = 0; omega) (by show ¬((o.length : Int) < 1 ∨ (o.length : Int) > 16); omega)).trans (hy0 (by omega))).symm)
  · rw [beq_f h1]
    conv => lhs; whnf
    refine Eq.trans (b := some (Res.ret (AV.d (D.int IntKind.i64 (1 : Int))), [])) (by kernel_rfl) ?_
    exact ret_i (F2 (by omega) (badN_2 rfl (by assumption))).symm
theorem fields34_4 (s : List UInt8) (n : Int) (a : List T) (o : List FlowT) (hs : s.length ≤ 140737488351232) (ha : SmL a) (hok : OkL a) (k : Nat) (hk : s.length + wtL a + 8 < k) :
    icall Try.prog cfg k 35 [.agg [.d (.int .i64 4), .d (.str s), .d (.int .i64 n), .d (.list (cellsL a)), .d (.list (o.map FlowT.cells))]] [] = some (.ret (.d (.int .i64 (fieldsS ⟨4, s, n, a, o⟩))), []) := by
  obtain ⟨k, rfl⟩ : ∃ j, k = j + 1 := ⟨k - 1, by omega⟩
  have hl := cellsL_len a
  have hl2 : (o.map FlowT.cells).length = o.length := List.length_map ..
  obtain ⟨y, hy, hy0⟩ := arg_first a
  have hwl := wtL_len a
  have hc : a.length ≠ 0 → icall Try.prog cfg k 49 [y.av, .d (.bool false)] [] = some (.ret (.d (.int .i64 (typedS y false))), []) := fun h => typed71 y false (SmL_mem ha (List.mem_of_getElem? (hy h).1)) (OkL_mem hok (List.mem_of_getElem? (hy h).1)) k (by have := wtL_mem a y (List.mem_of_getElem? (hy h).1); omega)
  have ea : asksK 4 = false := rfl
  have el : leastK 4 = 2 := rfl
  have em : mostK 4 = 16 := rfl
  rw [icall_body rfl Try.func35]
  obtain ⟨lp, hlp⟩ : ∃ lp, lp = lpOf Try.prog cfg (icall Try.prog cfg k) Try.f35.ntmps 35 k (([] : Hp).map (·.1)) := ⟨_, rfl⟩
  rw [← hlp]
  conv => lhs; whnf
  refine nextK_of (named67 4 k (by omega)) ?_
  conv => lhs; whnf
  refine iteK_not ?_
  conv => lhs; whnf
  refine iteK_beq (fun h1 => ?_) (fun h1 => ?_)
  · obtain rfl : s = [] := h1
    conv => lhs; whnf
    refine iteK_dec (fun h2 => ?_) (fun h2 => ?_)
    · rw [dec_t h2]
      conv => lhs; whnf
      refine Eq.trans (b := some (Res.ret (AV.d (D.int IntKind.i64 (2 : Int))), [])) (by kernel_rfl) ?_
      exact ret_i (F3 (by omega) (badN_1 rfl (by first | rfl | assumption)) (by omega)).symm
    · rw [dec_f h2]
      conv => lhs; whnf
      refine iteK_dec (fun h3 => ?_) (fun h3 => ?_)
      · rw [dec_t h3]
        conv => lhs; whnf
        refine Eq.trans (b := some (Res.ret (AV.d (D.int IntKind.i64 (2 : Int))), [])) (by kernel_rfl) ?_
        exact ret_i (F3 (by omega) (badN_1 rfl (by first | rfl | assumption)) (by omega)).symm
      · rw [dec_f h3]
        conv => lhs; whnf
        refine iteK_dec (fun h4 => ?_) (fun h4 => ?_)
        · rw [dec_t h4]
          conv => lhs; whnf
          refine nextK_of (numb68 4 k (by omega)) ?_
          conv => lhs; whnf
          refine Eq.trans (b := some (Res.ret (AV.d (D.int IntKind.i64 (2 : Int))), [])) (by kernel_rfl) ?_
          exact ret_i (F3 (by omega) (badN_1 rfl (by first | rfl | assumption)) (by omega)).symm
        · rw [dec_f h4]
          conv => lhs; whnf
          refine nextK_of (asks69 4 k (by omega)) ?_
          conv => lhs; whnf
          refine iteK_bne (fun h5 => ?_) (fun h5 => ?_)
          · rw [bne_t h5]
            conv => lhs; whnf
            refine Eq.trans (b := some (Res.ret (AV.d (D.int IntKind.i64 (1 : Int))), [])) (by kernel_rfl) ?_
            ((try simp only [ea, ab_1, ab_2, ab_3, ab_4] at *); exact ret_i (F4 (by omega) (badN_1 rfl (by first | rfl | assumption)) (by omega) (by show (a.length : Int) ≠ 0; omega)).symm)
          · rw [bne_f h5]
            conv => lhs; whnf
            refine nextK_of (ways70 4 k (by omega)) ?_
            conv => lhs; whnf
            refine iteK_dec (fun h6 => ?_) (fun h6 => ?_)
            · rw [dec_t h6]
              conv => lhs; whnf
              refine Eq.trans (b := some (Res.ret (AV.d (D.int IntKind.i64 (8 : Int))), [])) (by kernel_rfl) ?_
              ((try simp only [ea, ab_1, ab_2, ab_3, ab_4] at *); exact ret_i (F5 (by omega) (badN_1 rfl (by first | rfl | assumption)) (by omega) (by show (a.length : Int) = 0; omega) (by show (o.length : Int) < 2 ∨ (o.length : Int) > 16; omega)).symm)
            · rw [dec_f h6]
              conv => lhs; whnf
              refine iteK_dec (fun h7 => ?_) (fun h7 => ?_)
              · rw [dec_t h7]
                conv => lhs; whnf
                refine Eq.trans (b := some (Res.ret (AV.d (D.int IntKind.i64 (8 : Int))), [])) (by kernel_rfl) ?_
                ((try simp only [ea, ab_1, ab_2, ab_3, ab_4] at *); exact ret_i (F5 (by omega) (badN_1 rfl (by first | rfl | assumption)) (by omega) (by show (a.length : Int) = 0; omega) (by show (o.length : Int) < 2 ∨ (o.length : Int) > 16; omega)).symm)
              · rw [dec_f h7]
                conv => lhs; whnf
                refine Eq.trans (b := some (Res.ret (AV.d (D.int IntKind.i64 (0 : Int))), [])) (by kernel_rfl) ?_
                ((try simp only [ea, ab_1, ab_2, ab_3, ab_4] at *); exact ret_i ((F6 (by omega) (badN_1 rfl (by first | rfl | assumption)) (by omega) (by show (a.length : Int) = 0; omega) (by show ¬((o.length : Int) < 2 ∨ (o.length : Int) > 16); omega)).trans (hy0 (by omega))).symm)
  · rw [beq_f h1]
    conv => lhs; whnf
    refine Eq.trans (b := some (Res.ret (AV.d (D.int IntKind.i64 (1 : Int))), [])) (by kernel_rfl) ?_
    exact ret_i (F2 (by omega) (badN_2 rfl (by assumption))).symm
theorem fields34_5 (s : List UInt8) (n : Int) (a : List T) (o : List FlowT) (hs : s.length ≤ 140737488351232) (ha : SmL a) (hok : OkL a) (k : Nat) (hk : s.length + wtL a + 8 < k) :
    icall Try.prog cfg k 35 [.agg [.d (.int .i64 5), .d (.str s), .d (.int .i64 n), .d (.list (cellsL a)), .d (.list (o.map FlowT.cells))]] [] = some (.ret (.d (.int .i64 (fieldsS ⟨5, s, n, a, o⟩))), []) := by
  obtain ⟨k, rfl⟩ : ∃ j, k = j + 1 := ⟨k - 1, by omega⟩
  have hl := cellsL_len a
  have hl2 : (o.map FlowT.cells).length = o.length := List.length_map ..
  obtain ⟨y, hy, hy0⟩ := arg_first a
  have hwl := wtL_len a
  have hc : a.length ≠ 0 → icall Try.prog cfg k 49 [y.av, .d (.bool false)] [] = some (.ret (.d (.int .i64 (typedS y false))), []) := fun h => typed71 y false (SmL_mem ha (List.mem_of_getElem? (hy h).1)) (OkL_mem hok (List.mem_of_getElem? (hy h).1)) k (by have := wtL_mem a y (List.mem_of_getElem? (hy h).1); omega)
  have ea : asksK 5 = false := rfl
  have el : leastK 5 = 1 := rfl
  have em : mostK 5 = 1 := rfl
  rw [icall_body rfl Try.func35]
  obtain ⟨lp, hlp⟩ : ∃ lp, lp = lpOf Try.prog cfg (icall Try.prog cfg k) Try.f35.ntmps 35 k (([] : Hp).map (·.1)) := ⟨_, rfl⟩
  rw [← hlp]
  conv => lhs; whnf
  refine nextK_of (named67 5 k (by omega)) ?_
  conv => lhs; whnf
  refine iteK_not ?_
  conv => lhs; whnf
  refine iteK_beq (fun h1 => ?_) (fun h1 => ?_)
  · obtain rfl : s = [] := h1
    conv => lhs; whnf
    refine iteK_dec (fun h2 => ?_) (fun h2 => ?_)
    · rw [dec_t h2]
      conv => lhs; whnf
      refine Eq.trans (b := some (Res.ret (AV.d (D.int IntKind.i64 (2 : Int))), [])) (by kernel_rfl) ?_
      exact ret_i (F3 (by omega) (badN_1 rfl (by first | rfl | assumption)) (by omega)).symm
    · rw [dec_f h2]
      conv => lhs; whnf
      refine iteK_dec (fun h3 => ?_) (fun h3 => ?_)
      · rw [dec_t h3]
        conv => lhs; whnf
        refine Eq.trans (b := some (Res.ret (AV.d (D.int IntKind.i64 (2 : Int))), [])) (by kernel_rfl) ?_
        exact ret_i (F3 (by omega) (badN_1 rfl (by first | rfl | assumption)) (by omega)).symm
      · rw [dec_f h3]
        conv => lhs; whnf
        refine iteK_dec (fun h4 => ?_) (fun h4 => ?_)
        · rw [dec_t h4]
          conv => lhs; whnf
          refine nextK_of (numb68 5 k (by omega)) ?_
          conv => lhs; whnf
          refine Eq.trans (b := some (Res.ret (AV.d (D.int IntKind.i64 (2 : Int))), [])) (by kernel_rfl) ?_
          exact ret_i (F3 (by omega) (badN_1 rfl (by first | rfl | assumption)) (by omega)).symm
        · rw [dec_f h4]
          conv => lhs; whnf
          refine nextK_of (asks69 5 k (by omega)) ?_
          conv => lhs; whnf
          refine iteK_bne (fun h5 => ?_) (fun h5 => ?_)
          · rw [bne_t h5]
            conv => lhs; whnf
            refine Eq.trans (b := some (Res.ret (AV.d (D.int IntKind.i64 (1 : Int))), [])) (by kernel_rfl) ?_
            ((try simp only [ea, ab_1, ab_2, ab_3, ab_4] at *); exact ret_i (F4 (by omega) (badN_1 rfl (by first | rfl | assumption)) (by omega) (by show (a.length : Int) ≠ 0; omega)).symm)
          · rw [bne_f h5]
            conv => lhs; whnf
            refine nextK_of (ways70 5 k (by omega)) ?_
            conv => lhs; whnf
            refine iteK_dec (fun h6 => ?_) (fun h6 => ?_)
            · rw [dec_t h6]
              conv => lhs; whnf
              refine Eq.trans (b := some (Res.ret (AV.d (D.int IntKind.i64 (8 : Int))), [])) (by kernel_rfl) ?_
              ((try simp only [ea, ab_1, ab_2, ab_3, ab_4] at *); exact ret_i (F5 (by omega) (badN_1 rfl (by first | rfl | assumption)) (by omega) (by show (a.length : Int) = 0; omega) (by show (o.length : Int) < 1 ∨ (o.length : Int) > 1; omega)).symm)
            · rw [dec_f h6]
              conv => lhs; whnf
              refine iteK_dec (fun h7 => ?_) (fun h7 => ?_)
              · rw [dec_t h7]
                conv => lhs; whnf
                refine Eq.trans (b := some (Res.ret (AV.d (D.int IntKind.i64 (8 : Int))), [])) (by kernel_rfl) ?_
                ((try simp only [ea, ab_1, ab_2, ab_3, ab_4] at *); exact ret_i (F5 (by omega) (badN_1 rfl (by first | rfl | assumption)) (by omega) (by show (a.length : Int) = 0; omega) (by show (o.length : Int) < 1 ∨ (o.length : Int) > 1; omega)).symm)
              · rw [dec_f h7]
                conv => lhs; whnf
                refine Eq.trans (b := some (Res.ret (AV.d (D.int IntKind.i64 (0 : Int))), [])) (by kernel_rfl) ?_
                ((try simp only [ea, ab_1, ab_2, ab_3, ab_4] at *); exact ret_i ((F6 (by omega) (badN_1 rfl (by first | rfl | assumption)) (by omega) (by show (a.length : Int) = 0; omega) (by show ¬((o.length : Int) < 1 ∨ (o.length : Int) > 1); omega)).trans (hy0 (by omega))).symm)
  · rw [beq_f h1]
    conv => lhs; whnf
    refine Eq.trans (b := some (Res.ret (AV.d (D.int IntKind.i64 (1 : Int))), [])) (by kernel_rfl) ?_
    exact ret_i (F2 (by omega) (badN_2 rfl (by assumption))).symm
theorem fields34_6 (s : List UInt8) (n : Int) (a : List T) (o : List FlowT) (hs : s.length ≤ 140737488351232) (ha : SmL a) (hok : OkL a) (k : Nat) (hk : s.length + wtL a + 8 < k) :
    icall Try.prog cfg k 35 [.agg [.d (.int .i64 6), .d (.str s), .d (.int .i64 n), .d (.list (cellsL a)), .d (.list (o.map FlowT.cells))]] [] = some (.ret (.d (.int .i64 (fieldsS ⟨6, s, n, a, o⟩))), []) := by
  obtain ⟨k, rfl⟩ : ∃ j, k = j + 1 := ⟨k - 1, by omega⟩
  have hl := cellsL_len a
  have hl2 : (o.map FlowT.cells).length = o.length := List.length_map ..
  obtain ⟨y, hy, hy0⟩ := arg_first a
  have hwl := wtL_len a
  have hc : a.length ≠ 0 → icall Try.prog cfg k 49 [y.av, .d (.bool false)] [] = some (.ret (.d (.int .i64 (typedS y false))), []) := fun h => typed71 y false (SmL_mem ha (List.mem_of_getElem? (hy h).1)) (OkL_mem hok (List.mem_of_getElem? (hy h).1)) k (by have := wtL_mem a y (List.mem_of_getElem? (hy h).1); omega)
  have ea : asksK 6 = true := rfl
  have el : leastK 6 = 1 := rfl
  have em : mostK 6 = 1 := rfl
  rw [icall_body rfl Try.func35]
  obtain ⟨lp, hlp⟩ : ∃ lp, lp = lpOf Try.prog cfg (icall Try.prog cfg k) Try.f35.ntmps 35 k (([] : Hp).map (·.1)) := ⟨_, rfl⟩
  rw [← hlp]
  conv => lhs; whnf
  refine nextK_of (named67 6 k (by omega)) ?_
  conv => lhs; whnf
  refine nextK_b (refName_w s (by unfold lim; omega) k (by omega)) (fun h1 => ?_) (fun h1 => ?_)
  · conv => lhs; whnf
    refine iteK_dec (fun h2 => ?_) (fun h2 => ?_)
    · rw [dec_t h2]
      conv => lhs; whnf
      refine Eq.trans (b := some (Res.ret (AV.d (D.int IntKind.i64 (2 : Int))), [])) (by kernel_rfl) ?_
      exact ret_i (F3 (by omega) (badN_4 rfl (by decide) (by assumption)) (by omega)).symm
    · rw [dec_f h2]
      conv => lhs; whnf
      refine iteK_dec (fun h3 => ?_) (fun h3 => ?_)
      · rw [dec_t h3]
        conv => lhs; whnf
        refine Eq.trans (b := some (Res.ret (AV.d (D.int IntKind.i64 (2 : Int))), [])) (by kernel_rfl) ?_
        exact ret_i (F3 (by omega) (badN_4 rfl (by decide) (by assumption)) (by omega)).symm
      · rw [dec_f h3]
        conv => lhs; whnf
        refine iteK_dec (fun h4 => ?_) (fun h4 => ?_)
        · rw [dec_t h4]
          conv => lhs; whnf
          refine nextK_of (numb68 6 k (by omega)) ?_
          conv => lhs; whnf
          refine Eq.trans (b := some (Res.ret (AV.d (D.int IntKind.i64 (2 : Int))), [])) (by kernel_rfl) ?_
          exact ret_i (F3 (by omega) (badN_4 rfl (by decide) (by assumption)) (by omega)).symm
        · rw [dec_f h4]
          conv => lhs; whnf
          refine nextK_of (asks69 6 k (by omega)) ?_
          conv => lhs; whnf
          refine iteK_bne (fun h5 => ?_) (fun h5 => ?_)
          · rw [bne_t h5]
            conv => lhs; whnf
            refine Eq.trans (b := some (Res.ret (AV.d (D.int IntKind.i64 (1 : Int))), [])) (by kernel_rfl) ?_
            ((try simp only [ea, ab_1, ab_2, ab_3, ab_4] at *); exact ret_i (F4 (by omega) (badN_4 rfl (by decide) (by assumption)) (by omega) (by show (a.length : Int) ≠ 1; omega)).symm)
          · rw [bne_f h5]
            conv => lhs; whnf
            refine nextK_of (ways70 6 k (by omega)) ?_
            conv => lhs; whnf
            refine iteK_dec (fun h6 => ?_) (fun h6 => ?_)
            · rw [dec_t h6]
              conv => lhs; whnf
              refine Eq.trans (b := some (Res.ret (AV.d (D.int IntKind.i64 (8 : Int))), [])) (by kernel_rfl) ?_
              ((try simp only [ea, ab_1, ab_2, ab_3, ab_4] at *); exact ret_i (F5 (by omega) (badN_4 rfl (by decide) (by assumption)) (by omega) (by show (a.length : Int) = 1; omega) (by show (o.length : Int) < 1 ∨ (o.length : Int) > 1; omega)).symm)
            · rw [dec_f h6]
              conv => lhs; whnf
              refine iteK_dec (fun h7 => ?_) (fun h7 => ?_)
              · rw [dec_t h7]
                conv => lhs; whnf
                refine Eq.trans (b := some (Res.ret (AV.d (D.int IntKind.i64 (8 : Int))), [])) (by kernel_rfl) ?_
                ((try simp only [ea, ab_1, ab_2, ab_3, ab_4] at *); exact ret_i (F5 (by omega) (badN_4 rfl (by decide) (by assumption)) (by omega) (by show (a.length : Int) = 1; omega) (by show (o.length : Int) < 1 ∨ (o.length : Int) > 1; omega)).symm)
              · rw [dec_f h7]
                conv => lhs; whnf
                refine nextK_of (aop_ix rfl rfl rfl rfl (ixL_at' (n := 0) rfl (cellsL_get _ _ _ (hy (by (try simp only [ea, ab_1, ab_2, ab_3, ab_4] at *); omega)).1) rfl)) ?_
                conv => lhs; whnf
                refine nextK_of (hc (by (try simp only [ea, ab_1, ab_2, ab_3, ab_4] at *); omega)) ?_
                conv => lhs; whnf
                refine Eq.trans (b := some (Res.ret (AV.d (D.int IntKind.i64 (typedS y false))), [])) (by kernel_rfl) ?_
                ((try simp only [ea, ab_1, ab_2, ab_3, ab_4] at *); exact ret_i ((F6 (by omega) (badN_4 rfl (by decide) (by assumption)) (by omega) (by show (a.length : Int) = 1; omega) (by show ¬((o.length : Int) < 1 ∨ (o.length : Int) > 1); omega)).trans (hy (by omega)).2).symm)
  · conv => lhs; whnf
    refine Eq.trans (b := some (Res.ret (AV.d (D.int IntKind.i64 (1 : Int))), [])) (by kernel_rfl) ?_
    exact ret_i (F2 (by omega) (badN_3 rfl (by assumption))).symm
theorem fields34_7 (s : List UInt8) (n : Int) (a : List T) (o : List FlowT) (hs : s.length ≤ 140737488351232) (ha : SmL a) (hok : OkL a) (k : Nat) (hk : s.length + wtL a + 8 < k) :
    icall Try.prog cfg k 35 [.agg [.d (.int .i64 7), .d (.str s), .d (.int .i64 n), .d (.list (cellsL a)), .d (.list (o.map FlowT.cells))]] [] = some (.ret (.d (.int .i64 (fieldsS ⟨7, s, n, a, o⟩))), []) := by
  obtain ⟨k, rfl⟩ : ∃ j, k = j + 1 := ⟨k - 1, by omega⟩
  have hl := cellsL_len a
  have hl2 : (o.map FlowT.cells).length = o.length := List.length_map ..
  obtain ⟨y, hy, hy0⟩ := arg_first a
  have hwl := wtL_len a
  have hc : a.length ≠ 0 → icall Try.prog cfg k 49 [y.av, .d (.bool false)] [] = some (.ret (.d (.int .i64 (typedS y false))), []) := fun h => typed71 y false (SmL_mem ha (List.mem_of_getElem? (hy h).1)) (OkL_mem hok (List.mem_of_getElem? (hy h).1)) k (by have := wtL_mem a y (List.mem_of_getElem? (hy h).1); omega)
  have ea : asksK 7 = true := rfl
  have el : leastK 7 = 1 := rfl
  have em : mostK 7 = 1 := rfl
  rw [icall_body rfl Try.func35]
  obtain ⟨lp, hlp⟩ : ∃ lp, lp = lpOf Try.prog cfg (icall Try.prog cfg k) Try.f35.ntmps 35 k (([] : Hp).map (·.1)) := ⟨_, rfl⟩
  rw [← hlp]
  conv => lhs; whnf
  refine nextK_of (named67 7 k (by omega)) ?_
  conv => lhs; whnf
  refine iteK_not ?_
  conv => lhs; whnf
  refine iteK_beq (fun h1 => ?_) (fun h1 => ?_)
  · obtain rfl : s = [] := h1
    conv => lhs; whnf
    refine iteK_dec (fun h2 => ?_) (fun h2 => ?_)
    · rw [dec_t h2]
      conv => lhs; whnf
      refine Eq.trans (b := some (Res.ret (AV.d (D.int IntKind.i64 (2 : Int))), [])) (by kernel_rfl) ?_
      exact ret_i (F3 (by omega) (badN_1 rfl (by first | rfl | assumption)) (by omega)).symm
    · rw [dec_f h2]
      conv => lhs; whnf
      refine iteK_dec (fun h3 => ?_) (fun h3 => ?_)
      · rw [dec_t h3]
        conv => lhs; whnf
        refine Eq.trans (b := some (Res.ret (AV.d (D.int IntKind.i64 (2 : Int))), [])) (by kernel_rfl) ?_
        exact ret_i (F3 (by omega) (badN_1 rfl (by first | rfl | assumption)) (by omega)).symm
      · rw [dec_f h3]
        conv => lhs; whnf
        refine iteK_dec (fun h4 => ?_) (fun h4 => ?_)
        · rw [dec_t h4]
          conv => lhs; whnf
          refine nextK_of (numb68 7 k (by omega)) ?_
          conv => lhs; whnf
          refine Eq.trans (b := some (Res.ret (AV.d (D.int IntKind.i64 (2 : Int))), [])) (by kernel_rfl) ?_
          exact ret_i (F3 (by omega) (badN_1 rfl (by first | rfl | assumption)) (by omega)).symm
        · rw [dec_f h4]
          conv => lhs; whnf
          refine nextK_of (asks69 7 k (by omega)) ?_
          conv => lhs; whnf
          refine iteK_bne (fun h5 => ?_) (fun h5 => ?_)
          · rw [bne_t h5]
            conv => lhs; whnf
            refine Eq.trans (b := some (Res.ret (AV.d (D.int IntKind.i64 (1 : Int))), [])) (by kernel_rfl) ?_
            ((try simp only [ea, ab_1, ab_2, ab_3, ab_4] at *); exact ret_i (F4 (by omega) (badN_1 rfl (by first | rfl | assumption)) (by omega) (by show (a.length : Int) ≠ 1; omega)).symm)
          · rw [bne_f h5]
            conv => lhs; whnf
            refine nextK_of (ways70 7 k (by omega)) ?_
            conv => lhs; whnf
            refine iteK_dec (fun h6 => ?_) (fun h6 => ?_)
            · rw [dec_t h6]
              conv => lhs; whnf
              refine Eq.trans (b := some (Res.ret (AV.d (D.int IntKind.i64 (8 : Int))), [])) (by kernel_rfl) ?_
              ((try simp only [ea, ab_1, ab_2, ab_3, ab_4] at *); exact ret_i (F5 (by omega) (badN_1 rfl (by first | rfl | assumption)) (by omega) (by show (a.length : Int) = 1; omega) (by show (o.length : Int) < 1 ∨ (o.length : Int) > 1; omega)).symm)
            · rw [dec_f h6]
              conv => lhs; whnf
              refine iteK_dec (fun h7 => ?_) (fun h7 => ?_)
              · rw [dec_t h7]
                conv => lhs; whnf
                refine Eq.trans (b := some (Res.ret (AV.d (D.int IntKind.i64 (8 : Int))), [])) (by kernel_rfl) ?_
                ((try simp only [ea, ab_1, ab_2, ab_3, ab_4] at *); exact ret_i (F5 (by omega) (badN_1 rfl (by first | rfl | assumption)) (by omega) (by show (a.length : Int) = 1; omega) (by show (o.length : Int) < 1 ∨ (o.length : Int) > 1; omega)).symm)
              · rw [dec_f h7]
                conv => lhs; whnf
                refine nextK_of (aop_ix rfl rfl rfl rfl (ixL_at' (n := 0) rfl (cellsL_get _ _ _ (hy (by (try simp only [ea, ab_1, ab_2, ab_3, ab_4] at *); omega)).1) rfl)) ?_
                conv => lhs; whnf
                refine nextK_of (hc (by (try simp only [ea, ab_1, ab_2, ab_3, ab_4] at *); omega)) ?_
                conv => lhs; whnf
                refine Eq.trans (b := some (Res.ret (AV.d (D.int IntKind.i64 (typedS y false))), [])) (by kernel_rfl) ?_
                ((try simp only [ea, ab_1, ab_2, ab_3, ab_4] at *); exact ret_i ((F6 (by omega) (badN_1 rfl (by first | rfl | assumption)) (by omega) (by show (a.length : Int) = 1; omega) (by show ¬((o.length : Int) < 1 ∨ (o.length : Int) > 1); omega)).trans (hy (by omega)).2).symm)
  · rw [beq_f h1]
    conv => lhs; whnf
    refine Eq.trans (b := some (Res.ret (AV.d (D.int IntKind.i64 (1 : Int))), [])) (by kernel_rfl) ?_
    exact ret_i (F2 (by omega) (badN_2 rfl (by assumption))).symm
theorem fields34_8 (s : List UInt8) (n : Int) (a : List T) (o : List FlowT) (hs : s.length ≤ 140737488351232) (ha : SmL a) (hok : OkL a) (k : Nat) (hk : s.length + wtL a + 8 < k) :
    icall Try.prog cfg k 35 [.agg [.d (.int .i64 8), .d (.str s), .d (.int .i64 n), .d (.list (cellsL a)), .d (.list (o.map FlowT.cells))]] [] = some (.ret (.d (.int .i64 (fieldsS ⟨8, s, n, a, o⟩))), []) := by
  obtain ⟨k, rfl⟩ : ∃ j, k = j + 1 := ⟨k - 1, by omega⟩
  have hl := cellsL_len a
  have hl2 : (o.map FlowT.cells).length = o.length := List.length_map ..
  obtain ⟨y, hy, hy0⟩ := arg_first a
  have hwl := wtL_len a
  have hc : a.length ≠ 0 → icall Try.prog cfg k 49 [y.av, .d (.bool false)] [] = some (.ret (.d (.int .i64 (typedS y false))), []) := fun h => typed71 y false (SmL_mem ha (List.mem_of_getElem? (hy h).1)) (OkL_mem hok (List.mem_of_getElem? (hy h).1)) k (by have := wtL_mem a y (List.mem_of_getElem? (hy h).1); omega)
  have ea : asksK 8 = false := rfl
  have el : leastK 8 = 0 := rfl
  have em : mostK 8 = 0 := rfl
  rw [icall_body rfl Try.func35]
  obtain ⟨lp, hlp⟩ : ∃ lp, lp = lpOf Try.prog cfg (icall Try.prog cfg k) Try.f35.ntmps 35 k (([] : Hp).map (·.1)) := ⟨_, rfl⟩
  rw [← hlp]
  conv => lhs; whnf
  refine nextK_of (named67 8 k (by omega)) ?_
  conv => lhs; whnf
  refine iteK_not ?_
  conv => lhs; whnf
  refine iteK_beq (fun h1 => ?_) (fun h1 => ?_)
  · obtain rfl : s = [] := h1
    conv => lhs; whnf
    refine iteK_dec (fun h2 => ?_) (fun h2 => ?_)
    · rw [dec_t h2]
      conv => lhs; whnf
      refine Eq.trans (b := some (Res.ret (AV.d (D.int IntKind.i64 (2 : Int))), [])) (by kernel_rfl) ?_
      exact ret_i (F3 (by omega) (badN_1 rfl (by first | rfl | assumption)) (by omega)).symm
    · rw [dec_f h2]
      conv => lhs; whnf
      refine iteK_dec (fun h3 => ?_) (fun h3 => ?_)
      · rw [dec_t h3]
        conv => lhs; whnf
        refine Eq.trans (b := some (Res.ret (AV.d (D.int IntKind.i64 (2 : Int))), [])) (by kernel_rfl) ?_
        exact ret_i (F3 (by omega) (badN_1 rfl (by first | rfl | assumption)) (by omega)).symm
      · rw [dec_f h3]
        conv => lhs; whnf
        refine iteK_dec (fun h4 => ?_) (fun h4 => ?_)
        · rw [dec_t h4]
          conv => lhs; whnf
          refine nextK_of (numb68 8 k (by omega)) ?_
          conv => lhs; whnf
          refine Eq.trans (b := some (Res.ret (AV.d (D.int IntKind.i64 (2 : Int))), [])) (by kernel_rfl) ?_
          exact ret_i (F3 (by omega) (badN_1 rfl (by first | rfl | assumption)) (by omega)).symm
        · rw [dec_f h4]
          conv => lhs; whnf
          refine nextK_of (asks69 8 k (by omega)) ?_
          conv => lhs; whnf
          refine iteK_bne (fun h5 => ?_) (fun h5 => ?_)
          · rw [bne_t h5]
            conv => lhs; whnf
            refine Eq.trans (b := some (Res.ret (AV.d (D.int IntKind.i64 (1 : Int))), [])) (by kernel_rfl) ?_
            ((try simp only [ea, ab_1, ab_2, ab_3, ab_4] at *); exact ret_i (F4 (by omega) (badN_1 rfl (by first | rfl | assumption)) (by omega) (by show (a.length : Int) ≠ 0; omega)).symm)
          · rw [bne_f h5]
            conv => lhs; whnf
            refine nextK_of (ways70 8 k (by omega)) ?_
            conv => lhs; whnf
            refine iteK_dec (fun h6 => ?_) (fun h6 => ?_)
            · rw [dec_t h6]
              conv => lhs; whnf
              refine Eq.trans (b := some (Res.ret (AV.d (D.int IntKind.i64 (8 : Int))), [])) (by kernel_rfl) ?_
              ((try simp only [ea, ab_1, ab_2, ab_3, ab_4] at *); exact ret_i (F5 (by omega) (badN_1 rfl (by first | rfl | assumption)) (by omega) (by show (a.length : Int) = 0; omega) (by show (o.length : Int) < 0 ∨ (o.length : Int) > 0; omega)).symm)
            · rw [dec_f h6]
              conv => lhs; whnf
              refine Eq.trans (b := some (Res.ret (AV.d (D.int IntKind.i64 (0 : Int))), [])) (by kernel_rfl) ?_
              ((try simp only [ea, ab_1, ab_2, ab_3, ab_4] at *); exact ret_i ((F6 (by omega) (badN_1 rfl (by first | rfl | assumption)) (by omega) (by show (a.length : Int) = 0; omega) (by show ¬((o.length : Int) < 0 ∨ (o.length : Int) > 0); omega)).trans (hy0 (by omega))).symm)
  · rw [beq_f h1]
    conv => lhs; whnf
    refine Eq.trans (b := some (Res.ret (AV.d (D.int IntKind.i64 (1 : Int))), [])) (by kernel_rfl) ?_
    exact ret_i (F2 (by omega) (badN_2 rfl (by assumption))).symm
theorem fields34_9 (s : List UInt8) (n : Int) (a : List T) (o : List FlowT) (hs : s.length ≤ 140737488351232) (ha : SmL a) (hok : OkL a) (k : Nat) (hk : s.length + wtL a + 8 < k) :
    icall Try.prog cfg k 35 [.agg [.d (.int .i64 9), .d (.str s), .d (.int .i64 n), .d (.list (cellsL a)), .d (.list (o.map FlowT.cells))]] [] = some (.ret (.d (.int .i64 (fieldsS ⟨9, s, n, a, o⟩))), []) := by
  obtain ⟨k, rfl⟩ : ∃ j, k = j + 1 := ⟨k - 1, by omega⟩
  have hl := cellsL_len a
  have hl2 : (o.map FlowT.cells).length = o.length := List.length_map ..
  obtain ⟨y, hy, hy0⟩ := arg_first a
  have hwl := wtL_len a
  have hc : a.length ≠ 0 → icall Try.prog cfg k 49 [y.av, .d (.bool false)] [] = some (.ret (.d (.int .i64 (typedS y false))), []) := fun h => typed71 y false (SmL_mem ha (List.mem_of_getElem? (hy h).1)) (OkL_mem hok (List.mem_of_getElem? (hy h).1)) k (by have := wtL_mem a y (List.mem_of_getElem? (hy h).1); omega)
  have ea : asksK 9 = true := rfl
  have el : leastK 9 = 1 := rfl
  have em : mostK 9 = 1 := rfl
  rw [icall_body rfl Try.func35]
  obtain ⟨lp, hlp⟩ : ∃ lp, lp = lpOf Try.prog cfg (icall Try.prog cfg k) Try.f35.ntmps 35 k (([] : Hp).map (·.1)) := ⟨_, rfl⟩
  rw [← hlp]
  conv => lhs; whnf
  refine nextK_of (named67 9 k (by omega)) ?_
  conv => lhs; whnf
  refine nextK_b (refName_w s (by unfold lim; omega) k (by omega)) (fun h1 => ?_) (fun h1 => ?_)
  · conv => lhs; whnf
    refine iteK_beq (fun h2 => ?_) (fun h2 => ?_)
    · obtain rfl : s = [(121 : UInt8), (101 : UInt8), (115 : UInt8)] := h2
      conv => lhs; whnf
      refine Eq.trans (b := some (Res.ret (AV.d (D.int IntKind.i64 (1 : Int))), [])) (by kernel_rfl) ?_
      exact ret_i (F2 (by omega) (by first | exact badN_9b | exact badN_9c | exact badN_3 rfl (by assumption) | exact badN_9f (by assumption))).symm
    · rw [beq_f h2]
      conv => lhs; whnf
      refine iteK_beq (fun h3 => ?_) (fun h3 => ?_)
      · obtain rfl : s = [(110 : UInt8), (111 : UInt8)] := h3
        conv => lhs; whnf
        refine Eq.trans (b := some (Res.ret (AV.d (D.int IntKind.i64 (1 : Int))), [])) (by kernel_rfl) ?_
        exact ret_i (F2 (by omega) (by first | exact badN_9b | exact badN_9c | exact badN_3 rfl (by assumption) | exact badN_9f (by assumption))).symm
      · rw [beq_f h3]
        conv => lhs; whnf
        refine iteK_dec (fun h4 => ?_) (fun h4 => ?_)
        · rw [dec_t h4]
          conv => lhs; whnf
          refine Eq.trans (b := some (Res.ret (AV.d (D.int IntKind.i64 (2 : Int))), [])) (by kernel_rfl) ?_
          exact ret_i (F3 (by omega) (by first | exact badN_9 (by assumption) | exact badN_9a (by assumption) (by assumption) (by assumption)) (by omega)).symm
        · rw [dec_f h4]
          conv => lhs; whnf
          refine iteK_dec (fun h5 => ?_) (fun h5 => ?_)
          · rw [dec_t h5]
            conv => lhs; whnf
            refine Eq.trans (b := some (Res.ret (AV.d (D.int IntKind.i64 (2 : Int))), [])) (by kernel_rfl) ?_
            exact ret_i (F3 (by omega) (by first | exact badN_9 (by assumption) | exact badN_9a (by assumption) (by assumption) (by assumption)) (by omega)).symm
          · rw [dec_f h5]
            conv => lhs; whnf
            refine iteK_dec (fun h6 => ?_) (fun h6 => ?_)
            · rw [dec_t h6]
              conv => lhs; whnf
              refine nextK_of (numb68 9 k (by omega)) ?_
              conv => lhs; whnf
              refine Eq.trans (b := some (Res.ret (AV.d (D.int IntKind.i64 (2 : Int))), [])) (by kernel_rfl) ?_
              exact ret_i (F3 (by omega) (by first | exact badN_9 (by assumption) | exact badN_9a (by assumption) (by assumption) (by assumption)) (by omega)).symm
            · rw [dec_f h6]
              conv => lhs; whnf
              refine nextK_of (asks69 9 k (by omega)) ?_
              conv => lhs; whnf
              refine iteK_bne (fun h7 => ?_) (fun h7 => ?_)
              · rw [bne_t h7]
                conv => lhs; whnf
                refine Eq.trans (b := some (Res.ret (AV.d (D.int IntKind.i64 (1 : Int))), [])) (by kernel_rfl) ?_
                ((try simp only [ea, ab_1, ab_2, ab_3, ab_4] at *); exact ret_i (F4 (by omega) (by first | exact badN_9 (by assumption) | exact badN_9a (by assumption) (by assumption) (by assumption)) (by omega) (by show (a.length : Int) ≠ 1; omega)).symm)
              · rw [bne_f h7]
                conv => lhs; whnf
                refine nextK_of (ways70 9 k (by omega)) ?_
                conv => lhs; whnf
                refine iteK_dec (fun h8 => ?_) (fun h8 => ?_)
                · rw [dec_t h8]
                  conv => lhs; whnf
                  refine Eq.trans (b := some (Res.ret (AV.d (D.int IntKind.i64 (8 : Int))), [])) (by kernel_rfl) ?_
                  ((try simp only [ea, ab_1, ab_2, ab_3, ab_4] at *); exact ret_i (F5 (by omega) (by first | exact badN_9 (by assumption) | exact badN_9a (by assumption) (by assumption) (by assumption)) (by omega) (by show (a.length : Int) = 1; omega) (by show (o.length : Int) < 1 ∨ (o.length : Int) > 1; omega)).symm)
                · rw [dec_f h8]
                  conv => lhs; whnf
                  refine iteK_dec (fun h9 => ?_) (fun h9 => ?_)
                  · rw [dec_t h9]
                    conv => lhs; whnf
                    refine Eq.trans (b := some (Res.ret (AV.d (D.int IntKind.i64 (8 : Int))), [])) (by kernel_rfl) ?_
                    ((try simp only [ea, ab_1, ab_2, ab_3, ab_4] at *); exact ret_i (F5 (by omega) (by first | exact badN_9 (by assumption) | exact badN_9a (by assumption) (by assumption) (by assumption)) (by omega) (by show (a.length : Int) = 1; omega) (by show (o.length : Int) < 1 ∨ (o.length : Int) > 1; omega)).symm)
                  · rw [dec_f h9]
                    conv => lhs; whnf
                    refine nextK_of (aop_ix rfl rfl rfl rfl (ixL_at' (n := 0) rfl (cellsL_get _ _ _ (hy (by (try simp only [ea, ab_1, ab_2, ab_3, ab_4] at *); omega)).1) rfl)) ?_
                    conv => lhs; whnf
                    refine nextK_of (hc (by (try simp only [ea, ab_1, ab_2, ab_3, ab_4] at *); omega)) ?_
                    conv => lhs; whnf
                    refine Eq.trans (b := some (Res.ret (AV.d (D.int IntKind.i64 (typedS y false))), [])) (by kernel_rfl) ?_
                    ((try simp only [ea, ab_1, ab_2, ab_3, ab_4] at *); exact ret_i ((F6 (by omega) (by first | exact badN_9 (by assumption) | exact badN_9a (by assumption) (by assumption) (by assumption)) (by omega) (by show (a.length : Int) = 1; omega) (by show ¬((o.length : Int) < 1 ∨ (o.length : Int) > 1); omega)).trans (hy (by omega)).2).symm)
  · conv => lhs; whnf
    refine Eq.trans (b := some (Res.ret (AV.d (D.int IntKind.i64 (1 : Int))), [])) (by kernel_rfl) ?_
    exact ret_i (F2 (by omega) (by first | exact badN_9b | exact badN_9c | exact badN_3 rfl (by assumption) | exact badN_9f (by assumption))).symm
theorem fields34_0 (x : Int) (hx9 : ¬(1 ≤ x ∧ x ≤ 9)) (s : List UInt8) (n : Int) (a : List T) (o : List FlowT) (hs : s.length ≤ 140737488351232) (ha : SmL a) (hok : OkL a) (k : Nat) (hk : s.length + wtL a + 8 < k) :
    icall Try.prog cfg k 35 [.agg [.d (.int .i64 x), .d (.str s), .d (.int .i64 n), .d (.list (cellsL a)), .d (.list (o.map FlowT.cells))]] [] = some (.ret (.d (.int .i64 (fieldsS ⟨x, s, n, a, o⟩))), []) := by
  obtain ⟨k, rfl⟩ : ∃ j, k = j + 1 := ⟨k - 1, by omega⟩
  have hl := cellsL_len a
  have hl2 : (o.map FlowT.cells).length = o.length := List.length_map ..
  obtain ⟨y, hy, hy0⟩ := arg_first a
  have hwl := wtL_len a
  have hc : a.length ≠ 0 → icall Try.prog cfg k 49 [y.av, .d (.bool false)] [] = some (.ret (.d (.int .i64 (typedS y false))), []) := fun h => typed71 y false (SmL_mem ha (List.mem_of_getElem? (hy h).1)) (OkL_mem hok (List.mem_of_getElem? (hy h).1)) k (by have := wtL_mem a y (List.mem_of_getElem? (hy h).1); omega)
  rw [icall_body rfl Try.func35]
  obtain ⟨lp, hlp⟩ : ∃ lp, lp = lpOf Try.prog cfg (icall Try.prog cfg k) Try.f35.ntmps 35 k (([] : Hp).map (·.1)) := ⟨_, rfl⟩
  rw [← hlp]
  conv => lhs; whnf
  refine iteK_dec (fun h1 => ?_) (fun h1 => ?_)
  · rw [dec_t h1]
    conv => lhs; whnf
    refine Eq.trans (b := some (Res.ret (AV.d (D.int IntKind.i64 (1 : Int))), [])) (by kernel_rfl) ?_
    exact ret_i (F1 (by omega)).symm
  · rw [dec_f h1]
    conv => lhs; whnf
    refine iteK_dec (fun h2 => ?_) (fun h2 => ?_)
    · rw [dec_t h2]
      conv => lhs; whnf
      refine Eq.trans (b := some (Res.ret (AV.d (D.int IntKind.i64 (1 : Int))), [])) (by kernel_rfl) ?_
      exact ret_i (F1 (by omega)).symm
    · rw [dec_f h2]
      (exfalso; omega)
theorem fields34 (p : PlaceT) (hs : p.Sm) (ho : p.Ok) (k : Nat) (hk : p.wt ≤ k) : icall Try.prog cfg k 35 [p.av] [] = some (.ret (.d (.int .i64 (fieldsS p))), []) := by
  obtain ⟨x, s, n, a, o⟩ := p
  obtain ⟨h1, h2, h3⟩ := hs
  obtain ⟨g1, g2, g3, g4, g5, g6, g7⟩ := ho
  have hw : s.length + wtL a + wtS FlowT.wt o + 12 ≤ k := hk
  by_cases h : 1 ≤ x ∧ x ≤ 9
  · rcases (by omega : x = 1 ∨ x = 2 ∨ x = 3 ∨ x = 4 ∨ x = 5 ∨ x = 6 ∨ x = 7 ∨ x = 8 ∨ x = 9) with rfl | rfl | rfl | rfl | rfl | rfl | rfl | rfl | rfl
    · exact fields34_1 s n a o h1 h2 g5 k (by omega)
    · exact fields34_2 s n a o h1 h2 g5 k (by omega)
    · exact fields34_3 s n a o h1 h2 g5 k (by omega)
    · exact fields34_4 s n a o h1 h2 g5 k (by omega)
    · exact fields34_5 s n a o h1 h2 g5 k (by omega)
    · exact fields34_6 s n a o h1 h2 g5 k (by omega)
    · exact fields34_7 s n a o h1 h2 g5 k (by omega)
    · exact fields34_8 s n a o h1 h2 g5 k (by omega)
    · exact fields34_9 s n a o h1 h2 g5 k (by omega)
  · exact fields34_0 x h s n a o h1 h2 g5 k (by omega)
end Go.Rx12
