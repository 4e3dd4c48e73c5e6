/- A part of the proof of the law: what functions of the program come to, walked by Rx, or plain facts on it. -/
import Derived.Test.YtbeppoonnbfdeaaRText
open Go Go.Rx Go.Proofs Go.Rx07 Go.RxTree
set_option maxRecDepth 1000000
set_option maxHeartbeats 4000000
set_option linter.unusedVariables false
set_option linter.unusedSimpArgs false
namespace Go.Rx07
theorem text27 : ∀ (e : Nat) (t : T) (lo : Int), e ≤ 16 → t.Ok → checkT t (17 - (e : Int)) = 0 → ∀ k, e + 60 < k → icall Try.prog cfg k 27 [.agg [.d (.int .i64 t.kind), .d (.int .i64 t.n), .d (.str t.name), .d (.list (cellsL t.kids))], .d (.int .i64 lo)] [] = some (.ret (.d (.str (textS t lo))), []) := by
  intro e
  induction e with
  | zero =>
    intro t lo he ho h
    obtain ⟨k, n, s, l⟩ := t
    exact absurd (checkT_inv h).1 (by omega)
  | succ e ih =>
    intro t lo he ho h k hk
    obtain ⟨q, n, s, l⟩ := t
    obtain ⟨c1, ⟨c2, c3, c4, c5, c6, c7, c8⟩, c9, c10⟩ := checkT_inv h
    obtain ⟨ho1, ho2, ho3, ho4, ho5⟩ := ho
    have hpw : 2 ^ e ≤ 2 ^ 16 := Nat.pow_le_pow_right (by decide) (by omega)
    have hp16 : (2 : Nat) ^ 16 = 65536 := by decide
    have hlim : (1000000000 : Nat) ≤ lim := by decide
    have hkc : ∀ x ∈ l, checkT x (17 - (e : Int)) = 0 := fun x hx => by have := checkL_mem c10 hx; rw [show (17 : Int) - ((e + 1 : Nat) : Int) + 1 = 17 - (e : Int) by omega] at this; exact this
    have hkl : ∀ x ∈ l, ∀ a, (textS x a).length ≤ 4000000 := fun x hx a => by have := textS_len e x a (OkL_mem ho5 hx) (hkc x hx); omega
    obtain ⟨k, rfl⟩ : ∃ j, k = j + 1 := ⟨k - 1, by omega⟩
    have hk' : ∀ x ∈ l, ∀ a : Int, icall Try.prog cfg k 27 [.agg [.d (.int .i64 x.kind), .d (.int .i64 x.n), .d (.str x.name), .d (.list (cellsL x.kids))], .d (.int .i64 a)] [] = some (.ret (.d (.str (textS x a))), []) := fun x hx a => ih x a (by omega) (OkL_mem ho5 hx) (hkc x hx) k (by omega)
    have hz0 : (0 : Int) = ((0 : Nat) : Int) := rfl
    have hz1 : (1 : Int) = ((1 : Nat) : Int) := rfl
    have hcase : q = 1 ∨ q = 2 ∨ q = 3 ∨ q = 4 ∨ q = 5 ∨ q = 6 ∨ 7 ≤ q := by omega
    rcases hcase with rfl | rfl | rfl | rfl | rfl | rfl | hq7
    · rw [text_1]
      have hn := (wf_i64 (n := n)).1 ho2
      have hd := digits42 18 n.toNat (by have : (10 : Nat) ^ 19 = 10000000000000000000 := by decide
                                         omega) (by omega) (by omega) k (by omega)
      rw [show ((n.toNat : Nat) : Int) = n by omega] at hd
      show icall Try.prog cfg _ _ [.agg [.d (.int .i64 1), .d (.int .i64 n), .d (.str s), .d (.list (cellsL l))], _] [] = _
      rw [icall_body rfl Try.func27]
      obtain ⟨lp, hlp⟩ : ∃ lp, lp = lpOf Try.prog cfg (icall Try.prog cfg k) Try.f27.ntmps 27 k (([] : Hp).map (·.1)) := ⟨_, rfl⟩
      rw [← hlp]
      conv => lhs; whnf
      refine nextK_of hd ?_
      conv => lhs; whnf
      refine Eq.trans (b := some (Res.ret (AV.d (D.str (digs (Int.toNat n)))), [])) (by kernel_rfl) ?_
      rfl
    · rw [text_2]
      show icall Try.prog cfg _ _ [.agg [.d (.int .i64 2), .d (.int .i64 n), .d (.str s), .d (.list (cellsL l))], _] [] = _
      rw [icall_body rfl Try.func27]
      obtain ⟨lp, hlp⟩ : ∃ lp, lp = lpOf Try.prog cfg (icall Try.prog cfg k) Try.f27.ntmps 27 k (([] : Hp).map (·.1)) := ⟨_, rfl⟩
      rw [← hlp]
      conv => lhs; whnf
      refine Eq.trans (b := some (Res.ret (AV.d (D.str s)), [])) (by kernel_rfl) ?_
      rfl
    · rw [text_3]
      show icall Try.prog cfg _ _ [.agg [.d (.int .i64 3), .d (.int .i64 n), .d (.str s), .d (.list (cellsL l))], _] [] = _
      rw [icall_body rfl Try.func27]
      obtain ⟨lp, hlp⟩ : ∃ lp, lp = lpOf Try.prog cfg (icall Try.prog cfg k) Try.f27.ntmps 27 k (([] : Hp).map (·.1)) := ⟨_, rfl⟩
      rw [← hlp]
      conv => lhs; whnf
      refine Eq.trans (b := some (Res.ret (AV.d (D.str [(121 : UInt8), (101 : UInt8), (115 : UInt8)])), [])) (by kernel_rfl) ?_
      rfl
    · rw [text_4]
      show icall Try.prog cfg _ _ [.agg [.d (.int .i64 4), .d (.int .i64 n), .d (.str s), .d (.list (cellsL l))], _] [] = _
      rw [icall_body rfl Try.func27]
      obtain ⟨lp, hlp⟩ : ∃ lp, lp = lpOf Try.prog cfg (icall Try.prog cfg k) Try.f27.ntmps 27 k (([] : Hp).map (·.1)) := ⟨_, rfl⟩
      rw [← hlp]
      conv => lhs; whnf
      refine Eq.trans (b := some (Res.ret (AV.d (D.str [(110 : UInt8), (111 : UInt8)])), [])) (by kernel_rfl) ?_
      rfl
    · obtain ⟨x, rfl⟩ : ∃ x, l = [x] := by
        have := c5 (by omega)
        match l, this with
        | [x], _ => exact ⟨x, rfl⟩
      rw [text_5]
      have hx : ([x] : List T)[0]? = some x := rfl
      have hc := hk' x (by simp) 6
      have hl := hkl x (by simp) 6
      have hl2 : ([45] : List UInt8).length + (textS x 6).length ≤ lim := by simp; omega
      generalize [x] = l at *
      show icall Try.prog cfg _ _ [.agg [.d (.int .i64 5), .d (.int .i64 n), .d (.str s), .d (.list (cellsL l))], _] [] = _
      rw [icall_body rfl Try.func27]
      obtain ⟨lp, hlp⟩ : ∃ lp, lp = lpOf Try.prog cfg (icall Try.prog cfg k) Try.f27.ntmps 27 k (([] : Hp).map (·.1)) := ⟨_, rfl⟩
      rw [← hlp]
      conv => lhs; whnf
      refine nextK_of (aop_ix rfl rfl rfl rfl (ixL_at' hz0 (cellsL_get _ _ _ hx) rfl)) ?_
      conv => lhs; whnf
      refine nextK_of hc ?_
      conv => lhs; whnf
      refine nextK_of (aop_add rfl rfl hl2) ?_
      conv => lhs; whnf
      refine Eq.trans (b := some (Res.ret (AV.d (D.str ((45 : UInt8) :: textS x (6 : Int)))), [])) (by kernel_rfl) ?_
      rfl
    · obtain ⟨x, rfl⟩ : ∃ x, l = [x] := by
        have := c5 (by omega)
        match l, this with
        | [x], _ => exact ⟨x, rfl⟩
      rw [text_6]
      have hx : ([x] : List T)[0]? = some x := rfl
      have hc := hk' x (by simp) 6
      have hl := hkl x (by simp) 6
      have hl2 : ([33] : List UInt8).length + (textS x 6).length ≤ lim := by simp; omega
      generalize [x] = l at *
      show icall Try.prog cfg _ _ [.agg [.d (.int .i64 6), .d (.int .i64 n), .d (.str s), .d (.list (cellsL l))], _] [] = _
      rw [icall_body rfl Try.func27]
      obtain ⟨lp, hlp⟩ : ∃ lp, lp = lpOf Try.prog cfg (icall Try.prog cfg k) Try.f27.ntmps 27 k (([] : Hp).map (·.1)) := ⟨_, rfl⟩
      rw [← hlp]
      conv => lhs; whnf
      refine nextK_of (aop_ix rfl rfl rfl rfl (ixL_at' hz0 (cellsL_get _ _ _ hx) rfl)) ?_
      conv => lhs; whnf
      refine nextK_of hc ?_
      conv => lhs; whnf
      refine nextK_of (aop_add rfl rfl hl2) ?_
      conv => lhs; whnf
      refine Eq.trans (b := some (Res.ret (AV.d (D.str ((33 : UInt8) :: textS x (6 : Int)))), [])) (by kernel_rfl) ?_
      rfl
    · obtain ⟨x, y, rfl⟩ : ∃ x y, l = [x, y] := by
        have := c6 hq7
        match l, this with
        | [x, y], _ => exact ⟨x, y, rfl⟩
      rw [text_7 hq7]
      unfold bodyS
      have hx : ([x, y] : List T)[0]? = some x := rfl
      have hy : ([x, y] : List T)[1]? = some y := rfl
      have hlv := level35 q k (by omega)
      have hsg := sign43 q k (by omega)
      have hb := levelK_b q
      have hw : IntKind.i64.wrap (levelK q + 1) = levelK q + 1 := Go.Rx.wrap_i64 (by omega) (by omega)
      have hc1 := hk' x (by simp) (leftK q)
      have hc2 := hk' y (by simp) (levelK q + 1)
      have hl1 := hkl x (by simp) (leftK q)
      have hl2 := hkl y (by simp) (levelK q + 1)
      have hs1 := signK_len q
      have hle : leftK q = if levelK q = 3 then 4 else levelK q := by unfold leftK; rw [if_neg (by omega)]
      rw [← hw] at hc2 hl2 ⊢
      rw [hle] at hc1 hl1 ⊢
      generalize [x, y] = l at *
      generalize levelK q = v at *
      generalize signK q = sg at *
      generalize textS y (IntKind.i64.wrap (v + 1)) = ty at *
      by_cases hv3 : v = 3
      · rw [if_pos hv3] at hc1 hl1 ⊢
        generalize textS x 4 = tx at *
        show icall Try.prog cfg _ _ [.agg [.d (.int .i64 q), .d (.int .i64 n), .d (.str s), .d (.list (cellsL l))], _] [] = _
        rw [icall_body rfl Try.func27]
        obtain ⟨lp, hlp⟩ : ∃ lp, lp = lpOf Try.prog cfg (icall Try.prog cfg k) Try.f27.ntmps 27 k (([] : Hp).map (·.1)) := ⟨_, rfl⟩
        rw [← hlp]
        conv => lhs; whnf
        refine iteK_beq (fun h1 => ?_) (fun h1 => ?_)
        · obtain rfl : q = (1 : Int) := h1
          (exfalso; omega)
        · rw [beq_f h1]
          conv => lhs; whnf
          refine iteK_beq (fun h2 => ?_) (fun h2 => ?_)
          · obtain rfl : q = (2 : Int) := h2
            (exfalso; omega)
          · rw [beq_f h2]
            conv => lhs; whnf
            refine iteK_beq (fun h3 => ?_) (fun h3 => ?_)
            · obtain rfl : q = (3 : Int) := h3
              (exfalso; omega)
            · rw [beq_f h3]
              conv => lhs; whnf
              refine iteK_beq (fun h4 => ?_) (fun h4 => ?_)
              · obtain rfl : q = (4 : Int) := h4
                (exfalso; omega)
              · rw [beq_f h4]
                conv => lhs; whnf
                refine iteK_beq (fun h5 => ?_) (fun h5 => ?_)
                · obtain rfl : q = (5 : Int) := h5
                  (exfalso; omega)
                · rw [beq_f h5]
                  conv => lhs; whnf
                  refine iteK_beq (fun h6 => ?_) (fun h6 => ?_)
                  · obtain rfl : q = (6 : Int) := h6
                    (exfalso; omega)
                  · rw [beq_f h6]
                    conv => lhs; whnf
                    refine nextK_of hlv ?_
                    conv => lhs; whnf
                    refine iteK_beq_t hv3 ?_
                    conv => lhs; whnf
                    refine iteO_t (by kernel_rfl) ?_
                    conv => lhs; whnf
                    refine nextK_of (aop_ix rfl rfl rfl rfl (ixL_at' hz0 (cellsL_get _ _ _ hx) rfl)) ?_
                    conv => lhs; whnf
                    refine nextK_of hc1 ?_
                    conv => lhs; whnf
                    refine nextK_of (aop_add rfl rfl (by simp; omega)) ?_
                    conv => lhs; whnf
                    refine nextK_of hsg ?_
                    conv => lhs; whnf
                    refine nextK_of (aop_add rfl rfl (by simp; omega)) ?_
                    conv => lhs; whnf
                    refine nextK_of (aop_add rfl rfl (by simp; omega)) ?_
                    conv => lhs; whnf
                    refine nextK_of (aop_ix rfl rfl rfl rfl (ixL_at' hz1 (cellsL_get _ _ _ hy) rfl)) ?_
                    conv => lhs; whnf
                    refine nextK_of hc2 ?_
                    conv => lhs; whnf
                    refine nextK_of (aop_add rfl rfl (by simp; omega)) ?_
                    conv => lhs; whnf
                    refine iteO_t (by kernel_rfl) ?_
                    conv => lhs; whnf
                    refine iteK_dec (fun h7 => ?_) (fun h7 => ?_)
                    · rw [dec_t h7]
                      conv => lhs; whnf
                      refine nextK_of (aop_add rfl rfl (by simp; omega)) ?_
                      conv => lhs; whnf
                      refine nextK_of (aop_add rfl rfl (by simp; omega)) ?_
                      conv => lhs; whnf
                      refine Eq.trans (b := some (Res.ret (AV.d (D.str ((40 : UInt8) :: List.append (List.append (List.append (List.append (List.append tx [(32 : UInt8)]) sg) [(32 : UInt8)]) ty) [(41 : UInt8)]))), [])) (by kernel_rfl) ?_
                      (rw [if_pos (by omega)]; rfl)
                    · rw [dec_f h7]
                      conv => lhs; whnf
                      refine Eq.trans (b := some (Res.ret (AV.d (D.str (List.append (List.append (List.append (List.append tx [(32 : UInt8)]) sg) [(32 : UInt8)]) ty))), [])) (by kernel_rfl) ?_
                      (rw [if_neg (by omega)]; rfl)
      · rw [if_neg hv3] at hc1 hl1 ⊢
        generalize textS x v = tx at *
        show icall Try.prog cfg _ _ [.agg [.d (.int .i64 q), .d (.int .i64 n), .d (.str s), .d (.list (cellsL l))], _] [] = _
        rw [icall_body rfl Try.func27]
        obtain ⟨lp, hlp⟩ : ∃ lp, lp = lpOf Try.prog cfg (icall Try.prog cfg k) Try.f27.ntmps 27 k (([] : Hp).map (·.1)) := ⟨_, rfl⟩
        rw [← hlp]
        conv => lhs; whnf
        refine iteK_beq (fun h1 => ?_) (fun h1 => ?_)
        · obtain rfl : q = (1 : Int) := h1
          (exfalso; omega)
        · rw [beq_f h1]
          conv => lhs; whnf
          refine iteK_beq (fun h2 => ?_) (fun h2 => ?_)
          · obtain rfl : q = (2 : Int) := h2
            (exfalso; omega)
          · rw [beq_f h2]
            conv => lhs; whnf
            refine iteK_beq (fun h3 => ?_) (fun h3 => ?_)
            · obtain rfl : q = (3 : Int) := h3
              (exfalso; omega)
            · rw [beq_f h3]
              conv => lhs; whnf
              refine iteK_beq (fun h4 => ?_) (fun h4 => ?_)
              · obtain rfl : q = (4 : Int) := h4
                (exfalso; omega)
              · rw [beq_f h4]
                conv => lhs; whnf
                refine iteK_beq (fun h5 => ?_) (fun h5 => ?_)
                · obtain rfl : q = (5 : Int) := h5
                  (exfalso; omega)
                · rw [beq_f h5]
                  conv => lhs; whnf
                  refine iteK_beq (fun h6 => ?_) (fun h6 => ?_)
                  · obtain rfl : q = (6 : Int) := h6
                    (exfalso; omega)
                  · rw [beq_f h6]
                    conv => lhs; whnf
                    refine nextK_of hlv ?_
                    conv => lhs; whnf
                    refine iteK_beq_f hv3 ?_
                    conv => lhs; whnf
                    refine iteO_t (by kernel_rfl) ?_
                    conv => lhs; whnf
                    refine nextK_of (aop_ix rfl rfl rfl rfl (ixL_at' hz0 (cellsL_get _ _ _ hx) rfl)) ?_
                    conv => lhs; whnf
                    refine nextK_of hc1 ?_
                    conv => lhs; whnf
                    refine nextK_of (aop_add rfl rfl (by simp; omega)) ?_
                    conv => lhs; whnf
                    refine nextK_of hsg ?_
                    conv => lhs; whnf
                    refine nextK_of (aop_add rfl rfl (by simp; omega)) ?_
                    conv => lhs; whnf
                    refine nextK_of (aop_add rfl rfl (by simp; omega)) ?_
                    conv => lhs; whnf
                    refine nextK_of (aop_ix rfl rfl rfl rfl (ixL_at' hz1 (cellsL_get _ _ _ hy) rfl)) ?_
                    conv => lhs; whnf
                    refine nextK_of hc2 ?_
                    conv => lhs; whnf
                    refine nextK_of (aop_add rfl rfl (by simp; omega)) ?_
                    conv => lhs; whnf
                    refine iteO_t (by kernel_rfl) ?_
                    conv => lhs; whnf
                    refine iteK_dec (fun h7 => ?_) (fun h7 => ?_)
                    · rw [dec_t h7]
                      conv => lhs; whnf
                      refine nextK_of (aop_add rfl rfl (by simp; omega)) ?_
                      conv => lhs; whnf
                      refine nextK_of (aop_add rfl rfl (by simp; omega)) ?_
                      conv => lhs; whnf
                      refine Eq.trans (b := some (Res.ret (AV.d (D.str ((40 : UInt8) :: List.append (List.append (List.append (List.append (List.append tx [(32 : UInt8)]) sg) [(32 : UInt8)]) ty) [(41 : UInt8)]))), [])) (by kernel_rfl) ?_
                      (rw [if_pos (by omega)]; rfl)
                    · rw [dec_f h7]
                      conv => lhs; whnf
                      refine Eq.trans (b := some (Res.ret (AV.d (D.str (List.append (List.append (List.append (List.append tx [(32 : UInt8)]) sg) [(32 : UInt8)]) ty))), [])) (by kernel_rfl) ?_
                      (rw [if_neg (by omega)]; rfl)
end Go.Rx07
