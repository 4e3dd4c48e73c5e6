/- A part of the proof of the law: what functions of the program come to, walked by Rx, or plain facts on it. -/
import Derived.Test.YtbeppoonnbfdeaaRText2
import Derived.Test.YtbeppoonnbfdeaaRScan
open Go Go.Rx Go.Proofs Go.Rx07 Go.RxTree
set_option maxRecDepth 1000000
set_option maxHeartbeats 4000000
set_option linter.unusedVariables false
set_option linter.unusedSimpArgs false
namespace Go.Rx07
abbrev nuS (acc : List UInt8) (z : Int) : St := ⟨[(3, .d (.str acc)), (4, .d (.int .i64 z))], []⟩
theorem nu_end (j : Nat) (acc : List UInt8) (ha : acc ≠ []) {lp : LP} (hlp : lp = lpOf Try.prog cfg (icall Try.prog cfg j) Try.f44.ntmps 44 j (([] : Hp).map (·.1))) (lf : Nat) (st : St) (hp : prune [] [3, 4] st = some ⟨[(3, .d (.str acc)), (4, .d (.int .i64 0))], []⟩) :
    loopK Try.prog cfg (icall Try.prog cfg j) lp Try.f44.ntmps 44 [] (bodyAt Try.f44 3) (lf + 1) st (exitP [] (some [3])) = some (.exit 0, ⟨[(3, .d (.str acc))], []⟩) := by
  refine loop_step hp ?_
  conv => lhs; whnf
  refine iteK_beq_f ha ?_
  conv => lhs; whnf
  refine Eq.trans (b := some (Fx.exit (0 : Nat), St.mk [((3 : Nat), AV.d (D.str acc))] [])) (by kernel_rfl) ?_
  rfl
theorem nu_next (j : Nat) (acc : List UInt8) (hal : acc.length ≤ 1000) (z : Int) (hz : z > 0 ∨ acc = []) {lp : LP} (hlp : lp = lpOf Try.prog cfg (icall Try.prog cfg j) Try.f44.ntmps 44 j (([] : Hp).map (·.1))) (lf : Nat) (st : St) (hp : prune [] [3, 4] st = some ⟨[(3, .d (.str acc)), (4, .d (.int .i64 z))], []⟩) (r : Option (Fx × St))
    (hih : ∀ st', prune [] [3, 4] st' = some ⟨[(3, .d (.str (UInt8.ofNat (Int.toNat (IntKind.u8.wrap (IntKind.i64.wrap (48 + Int.tmod z 10)))) :: acc))), (4, .d (.int .i64 (IntKind.i64.wrap (z.tdiv 10))))], []⟩ → loopK Try.prog cfg (icall Try.prog cfg j) lp Try.f44.ntmps 44 [] (bodyAt Try.f44 3) lf st' (exitP [] (some [3])) = r) : loopK Try.prog cfg (icall Try.prog cfg j) lp Try.f44.ntmps 44 [] (bodyAt Try.f44 3) (lf + 1) st (exitP [] (some [3])) = r := by
  have hl : ([UInt8.ofNat (Int.toNat (IntKind.u8.wrap (IntKind.i64.wrap (48 + Int.tmod z 10))))] : List UInt8).length + acc.length ≤ lim := by unfold lim; simp; omega
  refine loop_step hp ?_
  rcases hz with hz | rfl
  · conv => lhs; whnf
    refine iteK_dec_t hz ?_
    conv => lhs; whnf
    refine iteK_dec_t hz ?_
    conv => lhs; whnf
    refine iteK_dec_t hz ?_
    conv => lhs; whnf
    refine nextK_of (aop_add rfl rfl hl) ?_
    conv => lhs; whnf
    refine Eq.trans (hih _ rfl) ?_
    rfl
  · conv => lhs; whnf
    refine iteK_dec (fun h1 => ?_) (fun h1 => ?_)
    · rw [dec_t h1]
      conv => lhs; whnf
      refine Eq.trans (hih _ rfl) ?_
      rfl
    · rw [dec_f h1]
      conv => lhs; whnf
      refine Eq.trans (hih _ rfl) ?_
      rfl
theorem dig_byte {n : Nat} (h : n ≤ 9223372036854775807) : UInt8.ofNat (Int.toNat (IntKind.u8.wrap (IntKind.i64.wrap (48 + Int.tmod (n : Int) 10)))) = UInt8.ofNat (48 + n % 10) := by
  have e : (n : Int).tmod 10 = ((n % 10 : Nat) : Int) := by rw [Int.tmod_eq_emod_of_nonneg (by omega)]; omega
  rw [e, Go.Rx.wrap_i64 (by omega) (by omega), Go.Rx.wrap_u8 (by omega) (by omega)]
  rw [show (48 : Int) + ((n % 10 : Nat) : Int) = ((48 + n % 10 : Nat) : Int) by omega, Int.toNat_natCast]
theorem quo10 {n : Nat} (h : n ≤ 9223372036854775807) : IntKind.i64.wrap ((n : Int).tdiv 10) = ((n / 10 : Nat) : Int) := by
  rw [Int.tdiv_eq_ediv_of_nonneg (by omega), Go.Rx.wrap_i64 (by omega) (by omega)]; omega
theorem nuL (j : Nat) {lp : LP} (hlp : lp = lpOf Try.prog cfg (icall Try.prog cfg j) Try.f44.ntmps 44 j (([] : Hp).map (·.1))) : ∀ (m n : Nat) (acc : List UInt8) (lf : Nat) (st : St), n < 10 ^ (m + 1) → n ≤ 9223372036854775807 → acc.length + m ≤ 900 → (n > 0 ∨ acc = []) → m + 2 < lf → prune [] [3, 4] st = some ⟨[(3, .d (.str acc)), (4, .d (.int .i64 (n : Int)))], []⟩ →
    loopK Try.prog cfg (icall Try.prog cfg j) lp Try.f44.ntmps 44 [] (bodyAt Try.f44 3) lf st (exitP [] (some [3])) = some (.exit 0, ⟨[(3, .d (.str (digs n ++ acc)))], []⟩) := by
  intro m
  induction m with
  | zero =>
    intro n acc lf st hn hw ha hz hlf hp
    obtain ⟨lf, rfl⟩ : ∃ n, lf = n + 2 := ⟨lf - 2, by omega⟩
    have h10 : n < 10 := by simpa using hn
    refine nu_next j acc (by omega) n (by rcases hz with h | h; exact .inl (by omega); exact .inr h) hlp (lf + 1) st hp _ (fun st' hp' => ?_)
    rw [dig_byte hw, quo10 hw, show n / 10 = 0 by omega] at hp'
    rw [nu_end j _ (by simp) hlp lf st' hp', digs_s h10, show n % 10 = n by omega]; rfl
  | succ m ih =>
    intro n acc lf st hn hw ha hz hlf hp
    obtain ⟨lf, rfl⟩ : ∃ n, lf = n + 2 := ⟨lf - 2, by omega⟩
    refine nu_next j acc (by omega) n (by rcases hz with h | h; exact .inl (by omega); exact .inr h) hlp (lf + 1) st hp _ (fun st' hp' => ?_)
    rw [dig_byte hw, quo10 hw] at hp'
    by_cases h10 : n < 10
    · rw [show n / 10 = 0 by omega] at hp'
      rw [nu_end j _ (by simp) hlp lf st' hp', digs_s h10, show n % 10 = n by omega]; rfl
    · rw [ih (n / 10) _ (lf + 1) st' (by rw [Nat.pow_succ] at hn; omega) (by omega) (by simp; omega) (.inl (by omega)) (by omega) hp', digs_l h10, List.append_assoc]; rfl
theorem num44 (n : Nat) (hw : n ≤ 9223372036854775807) (k : Nat) (hk : 40 < k) : icall Try.prog cfg k 44 [.d (.int .i64 (n : Int))] [] = some (.ret (.d (.str (digs n))), []) := by
  obtain ⟨k, rfl⟩ : ∃ j, k = j + 1 := ⟨k - 1, by omega⟩
  have h20 : n < 10 ^ (19 + 1) := by
    have : (10 : Nat) ^ (19 + 1) = 100000000000000000000 := by decide
    omega
  have hL := fun (lp : LP) (hlp : lp = lpOf Try.prog cfg (icall Try.prog cfg k) Try.f44.ntmps 44 k (([] : Hp).map (·.1))) st (hp : prune [] [3, 4] st = some ⟨[(3, .d (.str [])), (4, .d (.int .i64 (n : Int)))], []⟩) => nuL k hlp 19 n [] k st h20 hw (by simp) (.inr rfl) (by omega) hp
  rw [List.append_nil] at hL
  rw [icall_body rfl Try.func44]
  obtain ⟨lp, hlp⟩ : ∃ lp, lp = lpOf Try.prog cfg (icall Try.prog cfg k) Try.f44.ntmps 44 k (([] : Hp).map (·.1)) := ⟨_, rfl⟩
  rw [← hlp]
  conv => lhs; whnf
  refine nextK_of (loop_at hlp (hL lp hlp _ rfl)) ?_
  conv => lhs; whnf
  refine Eq.trans (b := some (Res.ret (AV.d (D.str (digs n))), [])) (by kernel_rfl) ?_
  rfl
theorem signK46 (q : Int) (h7 : 7 ≤ q) (h14 : q ≤ 14) (k : Nat) (hk : 10 < k) : icall Try.prog cfg k 46 [.d (.int .i64 q)] [] = some (.ret (.d (.str (signK q))), []) := by
  obtain ⟨k, rfl⟩ : ∃ j, k = j + 10 := ⟨k - 10, by omega⟩
  have : q = 7 ∨ q = 8 ∨ q = 9 ∨ q = 10 ∨ q = 11 ∨ q = 12 ∨ q = 13 ∨ q = 14 := by omega
  rcases this with rfl | rfl | rfl | rfl | rfl | rfl | rfl | rfl <;> (show icall _ _ _ _ _ _ = _; kernel_rfl)
abbrev xav (t : T) : AV := .agg [.d (.int .i64 t.kind), .d (.int .i64 t.n), .d (.str t.name), .d (.list (cellsL t.kids))]
theorem wr_no (x : T) (lo : Int) (s : List UInt8) (k : Nat) (hk : 3 < k) (ht : icall Try.prog cfg k 28 [xav x] [] = some (.ret (.d (.str s)), [])) (hl : ¬ levelK x.kind < lo) : icall Try.prog cfg (k + 1) 45 [xav x, .d (.int .i64 lo)] [] = some (.ret (.d (.str s)), []) := by
  have hv := level38 x.kind k (by omega)
  unfold xav at *
  generalize levelK x.kind = v at *
  rw [icall_body rfl Try.func45]
  obtain ⟨lp, hlp⟩ : ∃ lp, lp = lpOf Try.prog cfg (icall Try.prog cfg k) Try.f45.ntmps 45 k (([] : Hp).map (·.1)) := ⟨_, rfl⟩
  rw [← hlp]
  conv => lhs; whnf
  refine nextK_of ht ?_
  conv => lhs; whnf
  refine nextK_of hv ?_
  conv => lhs; whnf
  refine iteK_dec_f hl ?_
  conv => lhs; whnf
  refine Eq.trans (b := some (Res.ret (AV.d (D.str s)), [])) (by kernel_rfl) ?_
  rfl
theorem wr_yes (x : T) (lo : Int) (s : List UInt8) (hsl : s.length ≤ 100000000) (k : Nat) (hk : 3 < k) (ht : icall Try.prog cfg k 28 [xav x] [] = some (.ret (.d (.str s)), [])) (hl : levelK x.kind < lo) : icall Try.prog cfg (k + 1) 45 [xav x, .d (.int .i64 lo)] [] = some (.ret (.d (.str ([40] ++ s ++ [41]))), []) := by
  have hv := level38 x.kind k (by omega)
  have hlim : (1000000000 : Nat) ≤ lim := by decide
  have hl1 : ([40] : List UInt8).length + s.length ≤ lim := by simp; omega
  have hl2 : ([40] ++ s).length + ([41] : List UInt8).length ≤ lim := by simp; omega
  unfold xav at *
  generalize levelK x.kind = v at *
  rw [icall_body rfl Try.func45]
  obtain ⟨lp, hlp⟩ : ∃ lp, lp = lpOf Try.prog cfg (icall Try.prog cfg k) Try.f45.ntmps 45 k (([] : Hp).map (·.1)) := ⟨_, rfl⟩
  rw [← hlp]
  conv => lhs; whnf
  refine nextK_of ht ?_
  conv => lhs; whnf
  refine nextK_of hv ?_
  conv => lhs; whnf
  refine iteK_dec_t hl ?_
  conv => lhs; whnf
  refine nextK_of (aop_add rfl rfl hl1) ?_
  conv => lhs; whnf
  refine nextK_of (aop_add rfl rfl hl2) ?_
  conv => lhs; whnf
  refine Eq.trans (b := some (Res.ret (AV.d (D.str ((40 : UInt8) :: List.append s [(41 : UInt8)]))), [])) (by kernel_rfl) ?_
  rfl
theorem textS_wrap {t : T} {d : Int} (h : checkT t d = 0) {lo : Int} (hlo : lo ≤ 6) : textS t lo = if levelK t.kind < lo then [40] ++ textS t 1 ++ [41] else textS t 1 := by
  obtain ⟨q, n, s, l⟩ := t
  obtain ⟨c1, ⟨c2, c3, c4, c5, c6, c7, c8⟩, c9, c10⟩ := checkT_inv h
  by_cases h7 : 7 ≤ q
  · match l, c6 h7 with
    | [x, y], _ =>
      rw [text_7 h7, text_7 h7, if_neg (show ¬ levelK q < 1 by have := levelK_b q; omega)]; rfl
  · have hl6 : levelK q = 6 := by unfold levelK; rw [if_neg (by omega), if_neg (by omega), if_neg (by omega), if_neg (by omega), if_neg (by omega)]
    rw [if_neg (show ¬ levelK (T.mk q n s l).kind < lo by show ¬ levelK q < lo; omega)]
    rw [textS, textS]
    unfold nodeS
    rw [hl6, if_neg (show ¬ (6 : Int) < lo by omega), if_neg (show ¬ (6 : Int) < 1 by omega)]
theorem text28 : ∀ (e : Nat) (t : T), e ≤ 16 → t.Ok → checkT t (17 - (e : Int)) = 0 →
    (∀ k, 2 * e + 60 < k → icall Try.prog cfg k 28 [xav t] [] = some (.ret (.d (.str (textS t 1))), [])) ∧
    (∀ (lo : Int) k, lo ≤ 6 → 2 * e + 61 < k → icall Try.prog cfg k 45 [xav t, .d (.int .i64 lo)] [] = some (.ret (.d (.str (textS t lo))), [])) := by
  intro e
  induction e with
  | zero =>
    intro t he ho h
    obtain ⟨k, n, s, l⟩ := t
    exact absurd (checkT_inv h).1 (by omega)
  | succ e ih =>
    intro t he ho h
    have hpw : 2 ^ e ≤ 2 ^ 16 := Nat.pow_le_pow_right (by decide) (by omega)
    have hp16 : (2 : Nat) ^ 16 = 65536 := by decide
    have hlen : ∀ a, (textS t a).length ≤ 8000000 := fun a => by
      have := textS_len (e + 1) t a ho h
      rw [Nat.pow_succ] at this; omega
    have key : ∀ k, 2 * (e + 1) + 60 < k → icall Try.prog cfg k 28 [xav t] [] = some (.ret (.d (.str (textS t 1))), []) := by
      intro k hk
      obtain ⟨q, n, s, l⟩ := t
      obtain ⟨c1, ⟨c2, c3, c4, c5, c6, c7, c8⟩, c9, c10⟩ := checkT_inv h
      obtain ⟨ho1, ho2, ho3, ho4, ho5⟩ := ho
      have hlim : (1000000000 : Nat) ≤ lim := by decide
      have hkc : ∀ x ∈ l, checkT x (17 - (e : Int)) = 0 := fun x hx => by have := checkL_mem c10 hx; rw [show (17 : Int) - ((e + 1 : Nat) : Int) + 1 = 17 - (e : Int) by omega] at this; exact this
      have hkl : ∀ x ∈ l, ∀ a, (textS x a).length ≤ 4000000 := fun x hx a => by have := textS_len e x a (OkL_mem ho5 hx) (hkc x hx); omega
      obtain ⟨k, rfl⟩ : ∃ j, k = j + 1 := ⟨k - 1, by omega⟩
      have hk' : ∀ x ∈ l, ∀ a : Int, a ≤ 6 → icall Try.prog cfg k 45 [xav x, .d (.int .i64 a)] [] = some (.ret (.d (.str (textS x a))), []) := fun x hx a ha => (ih x (by omega) (OkL_mem ho5 hx) (hkc x hx)).2 a k ha (by omega)
      unfold xav at hk'
      have hz0 : (0 : Int) = ((0 : Nat) : Int) := rfl
      have hz1 : (1 : Int) = ((1 : Nat) : Int) := rfl
      have hcase : q = 1 ∨ q = 2 ∨ q = 3 ∨ q = 4 ∨ q = 5 ∨ q = 6 ∨ 7 ≤ q := by omega
      rcases hcase with rfl | rfl | rfl | rfl | rfl | rfl | hq7
      · rw [text_1]
        have hn := (wf_i64 (n := n)).1 ho2
        have hd := num44 n.toNat (by omega) k (by omega)
        rw [show ((n.toNat : Nat) : Int) = n by omega] at hd
        show icall Try.prog cfg _ _ [.agg [.d (.int .i64 1), .d (.int .i64 n), .d (.str s), .d (.list (cellsL l))]] [] = _
        rw [icall_body rfl Try.func28]
        obtain ⟨lp, hlp⟩ : ∃ lp, lp = lpOf Try.prog cfg (icall Try.prog cfg k) Try.f28.ntmps 28 k (([] : Hp).map (·.1)) := ⟨_, rfl⟩
        rw [← hlp]
        conv => lhs; whnf
        refine nextK_of hd ?_
        conv => lhs; whnf
        refine Eq.trans (b := some (Res.ret (AV.d (D.str (digs (Int.toNat n)))), [])) (by kernel_rfl) ?_
        rfl
      · rw [text_2]
        show icall Try.prog cfg _ _ [.agg [.d (.int .i64 2), .d (.int .i64 n), .d (.str s), .d (.list (cellsL l))]] [] = _
        rw [icall_body rfl Try.func28]
        obtain ⟨lp, hlp⟩ : ∃ lp, lp = lpOf Try.prog cfg (icall Try.prog cfg k) Try.f28.ntmps 28 k (([] : Hp).map (·.1)) := ⟨_, rfl⟩
        rw [← hlp]
        conv => lhs; whnf
        refine Eq.trans (b := some (Res.ret (AV.d (D.str s)), [])) (by kernel_rfl) ?_
        rfl
      · rw [text_3]
        show icall Try.prog cfg _ _ [.agg [.d (.int .i64 3), .d (.int .i64 n), .d (.str s), .d (.list (cellsL l))]] [] = _
        rw [icall_body rfl Try.func28]
        obtain ⟨lp, hlp⟩ : ∃ lp, lp = lpOf Try.prog cfg (icall Try.prog cfg k) Try.f28.ntmps 28 k (([] : Hp).map (·.1)) := ⟨_, rfl⟩
        rw [← hlp]
        conv => lhs; whnf
        refine Eq.trans (b := some (Res.ret (AV.d (D.str [(121 : UInt8), (101 : UInt8), (115 : UInt8)])), [])) (by kernel_rfl) ?_
        rfl
      · rw [text_4]
        show icall Try.prog cfg _ _ [.agg [.d (.int .i64 4), .d (.int .i64 n), .d (.str s), .d (.list (cellsL l))]] [] = _
        rw [icall_body rfl Try.func28]
        obtain ⟨lp, hlp⟩ : ∃ lp, lp = lpOf Try.prog cfg (icall Try.prog cfg k) Try.f28.ntmps 28 k (([] : Hp).map (·.1)) := ⟨_, rfl⟩
        rw [← hlp]
        conv => lhs; whnf
        refine Eq.trans (b := some (Res.ret (AV.d (D.str [(110 : UInt8), (111 : UInt8)])), [])) (by kernel_rfl) ?_
        rfl
      · obtain ⟨x, rfl⟩ : ∃ x, l = [x] := by
          have := c5 (by omega)
          match l, this with
          | [x], _ => exact ⟨x, rfl⟩
        rw [text_5]
        have hx : ([x] : List T)[0]? = some x := rfl
        have hc := hk' x (by simp) 6 (by omega)
        have hl := hkl x (by simp) 6
        have hl2 : ([45] : List UInt8).length + (textS x 6).length ≤ lim := by simp; omega
        generalize [x] = l at *
        show icall Try.prog cfg _ _ [.agg [.d (.int .i64 5), .d (.int .i64 n), .d (.str s), .d (.list (cellsL l))]] [] = _
        rw [icall_body rfl Try.func28]
        obtain ⟨lp, hlp⟩ : ∃ lp, lp = lpOf Try.prog cfg (icall Try.prog cfg k) Try.f28.ntmps 28 k (([] : Hp).map (·.1)) := ⟨_, rfl⟩
        rw [← hlp]
        conv => lhs; whnf
        refine nextK_of (aop_ix rfl rfl rfl rfl (ixL_at' hz0 (cellsL_get _ _ _ hx) rfl)) ?_
        conv => lhs; whnf
        refine nextK_of hc ?_
        conv => lhs; whnf
        refine nextK_of (aop_add rfl rfl hl2) ?_
        conv => lhs; whnf
        refine Eq.trans (b := some (Res.ret (AV.d (D.str ((45 : UInt8) :: textS x (6 : Int)))), [])) (by kernel_rfl) ?_
        rfl
      · obtain ⟨x, rfl⟩ : ∃ x, l = [x] := by
          have := c5 (by omega)
          match l, this with
          | [x], _ => exact ⟨x, rfl⟩
        rw [text_6]
        have hx : ([x] : List T)[0]? = some x := rfl
        have hc := hk' x (by simp) 6 (by omega)
        have hl := hkl x (by simp) 6
        have hl2 : ([33] : List UInt8).length + (textS x 6).length ≤ lim := by simp; omega
        generalize [x] = l at *
        show icall Try.prog cfg _ _ [.agg [.d (.int .i64 6), .d (.int .i64 n), .d (.str s), .d (.list (cellsL l))]] [] = _
        rw [icall_body rfl Try.func28]
        obtain ⟨lp, hlp⟩ : ∃ lp, lp = lpOf Try.prog cfg (icall Try.prog cfg k) Try.f28.ntmps 28 k (([] : Hp).map (·.1)) := ⟨_, rfl⟩
        rw [← hlp]
        conv => lhs; whnf
        refine nextK_of (aop_ix rfl rfl rfl rfl (ixL_at' hz0 (cellsL_get _ _ _ hx) rfl)) ?_
        conv => lhs; whnf
        refine nextK_of hc ?_
        conv => lhs; whnf
        refine nextK_of (aop_add rfl rfl hl2) ?_
        conv => lhs; whnf
        refine Eq.trans (b := some (Res.ret (AV.d (D.str ((33 : UInt8) :: textS x (6 : Int)))), [])) (by kernel_rfl) ?_
        rfl
      · obtain ⟨x, y, rfl⟩ : ∃ x y, l = [x, y] := by
          have := c6 hq7
          match l, this with
          | [x, y], _ => exact ⟨x, y, rfl⟩
        have hb := levelK_b q
        rw [text_7 hq7, if_neg (by omega)]
        unfold bodyS
        have hx : ([x, y] : List T)[0]? = some x := rfl
        have hy : ([x, y] : List T)[1]? = some y := rfl
        have hlv := level38 q k (by omega)
        have hsg := signK46 q hq7 (by omega) k (by omega)
        have hl5 : levelK q ≤ 5 := by unfold levelK; repeat' split
                                      all_goals omega
        have hw : IntKind.i64.wrap (levelK q + 1) = levelK q + 1 := Go.Rx.wrap_i64 (by omega) (by omega)
        have hle : leftK q = if levelK q = 3 then 4 else levelK q := by unfold leftK; rw [if_neg (by omega)]
        have hc1 := hk' x (by simp) (leftK q) (by rw [hle]; split <;> omega)
        have hc2 := hk' y (by simp) (levelK q + 1) (by omega)
        have hl1 := hkl x (by simp) (leftK q)
        have hl2 := hkl y (by simp) (levelK q + 1)
        have hs1 := signK_len q
        rw [← hw] at hc2 hl2 ⊢
        rw [hle] at hc1 hl1 ⊢
        generalize [x, y] = l at *
        generalize levelK q = v at *
        generalize signK q = sg at *
        generalize textS y (IntKind.i64.wrap (v + 1)) = ty at *
        by_cases hv3 : v = 3
        · rw [if_pos hv3] at hc1 hl1 ⊢
          generalize textS x 4 = tx at *
          show icall Try.prog cfg _ _ [.agg [.d (.int .i64 q), .d (.int .i64 n), .d (.str s), .d (.list (cellsL l))]] [] = _
          rw [icall_body rfl Try.func28]
          obtain ⟨lp, hlp⟩ : ∃ lp, lp = lpOf Try.prog cfg (icall Try.prog cfg k) Try.f28.ntmps 28 k (([] : Hp).map (·.1)) := ⟨_, rfl⟩
          rw [← hlp]
          conv => lhs; whnf
          refine iteK_beq (fun h1 => ?_) (fun h1 => ?_)
          · obtain rfl : q = (1 : Int) := h1
            (exfalso; omega)
          · rw [beq_f h1]
            conv => lhs; whnf
            refine iteK_beq (fun h2 => ?_) (fun h2 => ?_)
            · obtain rfl : q = (2 : Int) := h2
              (exfalso; omega)
            · rw [beq_f h2]
              conv => lhs; whnf
              refine iteK_beq (fun h3 => ?_) (fun h3 => ?_)
              · obtain rfl : q = (3 : Int) := h3
                (exfalso; omega)
              · rw [beq_f h3]
                conv => lhs; whnf
                refine iteK_beq (fun h4 => ?_) (fun h4 => ?_)
                · obtain rfl : q = (4 : Int) := h4
                  (exfalso; omega)
                · rw [beq_f h4]
                  conv => lhs; whnf
                  refine iteK_beq (fun h5 => ?_) (fun h5 => ?_)
                  · obtain rfl : q = (5 : Int) := h5
                    (exfalso; omega)
                  · rw [beq_f h5]
                    conv => lhs; whnf
                    refine iteK_beq (fun h6 => ?_) (fun h6 => ?_)
                    · obtain rfl : q = (6 : Int) := h6
                      (exfalso; omega)
                    · rw [beq_f h6]
                      conv => lhs; whnf
                      refine nextK_of hlv ?_
                      conv => lhs; whnf
                      refine iteK_beq_t hv3 ?_
                      conv => lhs; whnf
                      refine iteO_t (by kernel_rfl) ?_
                      conv => lhs; whnf
                      refine nextK_of (aop_ix rfl rfl rfl rfl (ixL_at' hz0 (cellsL_get _ _ _ hx) rfl)) ?_
                      conv => lhs; whnf
                      refine nextK_of hc1 ?_
                      conv => lhs; whnf
                      refine nextK_of (aop_add rfl rfl (by simp; omega)) ?_
                      conv => lhs; whnf
                      refine nextK_of hsg ?_
                      conv => lhs; whnf
                      refine nextK_of (aop_add rfl rfl (by simp; omega)) ?_
                      conv => lhs; whnf
                      refine nextK_of (aop_add rfl rfl (by simp; omega)) ?_
                      conv => lhs; whnf
                      refine nextK_of (aop_ix rfl rfl rfl rfl (ixL_at' hz1 (cellsL_get _ _ _ hy) rfl)) ?_
                      conv => lhs; whnf
                      refine nextK_of hc2 ?_
                      conv => lhs; whnf
                      refine nextK_of (aop_add rfl rfl (by simp; omega)) ?_
                      conv => lhs; whnf
                      refine iteO_t (by kernel_rfl) ?_
                      conv => lhs; whnf
                      refine Eq.trans (b := some (Res.ret (AV.d (D.str (List.append (List.append (List.append (List.append tx [(32 : UInt8)]) sg) [(32 : UInt8)]) ty))), [])) (by kernel_rfl) ?_
                      rfl
        · rw [if_neg hv3] at hc1 hl1 ⊢
          generalize textS x v = tx at *
          show icall Try.prog cfg _ _ [.agg [.d (.int .i64 q), .d (.int .i64 n), .d (.str s), .d (.list (cellsL l))]] [] = _
          rw [icall_body rfl Try.func28]
          obtain ⟨lp, hlp⟩ : ∃ lp, lp = lpOf Try.prog cfg (icall Try.prog cfg k) Try.f28.ntmps 28 k (([] : Hp).map (·.1)) := ⟨_, rfl⟩
          rw [← hlp]
          conv => lhs; whnf
          refine iteK_beq (fun h1 => ?_) (fun h1 => ?_)
          · obtain rfl : q = (1 : Int) := h1
            (exfalso; omega)
          · rw [beq_f h1]
            conv => lhs; whnf
            refine iteK_beq (fun h2 => ?_) (fun h2 => ?_)
            · obtain rfl : q = (2 : Int) := h2
              (exfalso; omega)
            · rw [beq_f h2]
              conv => lhs; whnf
              refine iteK_beq (fun h3 => ?_) (fun h3 => ?_)
              · obtain rfl : q = (3 : Int) := h3
                (exfalso; omega)
              · rw [beq_f h3]
                conv => lhs; whnf
                refine iteK_beq (fun h4 => ?_) (fun h4 => ?_)
                · obtain rfl : q = (4 : Int) := h4
                  (exfalso; omega)
                · rw [beq_f h4]
                  conv => lhs; whnf
                  refine iteK_beq (fun h5 => ?_) (fun h5 => ?_)
                  · obtain rfl : q = (5 : Int) := h5
                    (exfalso; omega)
                  · rw [beq_f h5]
                    conv => lhs; whnf
                    refine iteK_beq (fun h6 => ?_) (fun h6 => ?_)
                    · obtain rfl : q = (6 : Int) := h6
                      (exfalso; omega)
                    · rw [beq_f h6]
                      conv => lhs; whnf
                      refine nextK_of hlv ?_
                      conv => lhs; whnf
                      refine iteK_beq_f hv3 ?_
                      conv => lhs; whnf
                      refine iteO_t (by kernel_rfl) ?_
                      conv => lhs; whnf
                      refine nextK_of (aop_ix rfl rfl rfl rfl (ixL_at' hz0 (cellsL_get _ _ _ hx) rfl)) ?_
                      conv => lhs; whnf
                      refine nextK_of hc1 ?_
                      conv => lhs; whnf
                      refine nextK_of (aop_add rfl rfl (by simp; omega)) ?_
                      conv => lhs; whnf
                      refine nextK_of hsg ?_
                      conv => lhs; whnf
                      refine nextK_of (aop_add rfl rfl (by simp; omega)) ?_
                      conv => lhs; whnf
                      refine nextK_of (aop_add rfl rfl (by simp; omega)) ?_
                      conv => lhs; whnf
                      refine nextK_of (aop_ix rfl rfl rfl rfl (ixL_at' hz1 (cellsL_get _ _ _ hy) rfl)) ?_
                      conv => lhs; whnf
                      refine nextK_of hc2 ?_
                      conv => lhs; whnf
                      refine nextK_of (aop_add rfl rfl (by simp; omega)) ?_
                      conv => lhs; whnf
                      refine iteO_t (by kernel_rfl) ?_
                      conv => lhs; whnf
                      refine Eq.trans (b := some (Res.ret (AV.d (D.str (List.append (List.append (List.append (List.append tx [(32 : UInt8)]) sg) [(32 : UInt8)]) ty))), [])) (by kernel_rfl) ?_
                      rfl
    refine ⟨key, fun lo k hlo hk => ?_⟩
    obtain ⟨k, rfl⟩ : ∃ j, k = j + 1 := ⟨k - 1, by omega⟩
    rw [textS_wrap h hlo]
    by_cases hlt : levelK t.kind < lo
    · rw [if_pos hlt]
      exact wr_yes t lo _ (by have := hlen 1; omega) k (by omega) (key k (by omega)) hlt
    · rw [if_neg hlt]
      exact wr_no t lo _ k (by omega) (key k (by omega)) hlt
end Go.Rx07
