/- A part of the proof of the law: what functions of the program come to, walked by Rx, or plain facts on it. -/
import Derived.Test.YtahnmikdpclbfaaRReadU
open Go Go.Rx Go.Proofs Go.Rx11 Go.RxTree
set_option maxRecDepth 1000000
set_option maxHeartbeats 4000000
set_option linter.unusedVariables false
set_option linter.unusedSimpArgs false
namespace Go.Rx11
theorem rd81L (j : Nat) (b : List UInt8) (hb : b.length ≤ maxLen) {lp : LP} (hlp : lp = lpOf Try.prog cfg (icall Try.prog cfg j) Try.f81.ntmps 81 j (([] : Hp).map (·.1))) :
    ∀ (m i : Nat) (z : Int)  (lf : Nat) (st : St), (b.take 10).length - i = m → i ≤ (b.take 10).length → z = (i : Int) → m < lf → prune [] [0, 5] st = some ⟨[(0, .d (.list (bL b))), (5, .d (.int .i64 z))], []⟩ →
      loopK Try.prog cfg (icall Try.prog cfg j) lp Try.f81.ntmps 81 [] (bodyAt Try.f81 2) lf st (exitP [] (some [0, 5])) = some (.exit 0, ⟨[(0, .d (.list (bL b))), (5, .d (.int .i64 ((i + hiN (10 - i) (b.drop i) : Nat) : Int)))], []⟩) := by
  intro m
  induction m with
  | zero =>
    intro i z  lf st hi hle hz  hlf hp
    obtain ⟨lf, rfl⟩ : ∃ n, lf = n + 1 := ⟨lf - 1, by omega⟩
    refine loop_step hp ?_
    rw [List.length_take] at hi hle
    have hlen := bL_len b
    have q0 : hiN (10 - i) (b.drop i) = 0 := hiN_stop (by omega)
    conv => lhs; whnf
    refine iteK_dec (fun h1 => ?_) (fun h1 => ?_)
    · rw [dec_t h1]
      conv => lhs; whnf
      refine iteK_dec (fun h2 => ?_) (fun h2 => ?_)
      · rw [dec_t h2]
        (exfalso; omega)
      · rw [dec_f h2]
        conv => lhs; whnf
        refine Eq.trans (b := some (Fx.exit (0 : Nat), St.mk [((0 : Nat), AV.d (D.list (bL b))), ((5 : Nat), AV.d (D.int IntKind.i64 z))] [])) (by kernel_rfl) ?_
        (rw [q0, hz]; rfl)
    · rw [dec_f h1]
      conv => lhs; whnf
      refine Eq.trans (b := some (Fx.exit (0 : Nat), St.mk [((0 : Nat), AV.d (D.list (bL b))), ((5 : Nat), AV.d (D.int IntKind.i64 z))] [])) (by kernel_rfl) ?_
      (rw [q0, hz]; rfl)
  | succ m ihm =>
    intro i z  lf st hi hle hz  hlf hp
    obtain ⟨lf, rfl⟩ : ∃ n, lf = n + 1 := ⟨lf - 1, by omega⟩
    refine loop_step hp ?_
    rw [List.length_take] at hi hle
    have hlen := bL_len b
    have hbi : i < b.length := by omega
    have hx : b[i]? = some b[i] := List.getElem?_eq_getElem hbi
    have q1 : 127 < b[i].toNat → i + hiN (10 - i) (b.drop i) = (i + 1) + hiN (10 - (i + 1)) (b.drop (i + 1)) := fun h => by rw [hiN_drop (by omega) hbi h]; omega
    have q0 : ¬ 127 < b[i].toNat → hiN (10 - i) (b.drop i) = 0 := fun h => hiN_stop (.inr (.inr (by rw [List.getD_eq_getElem?_getD, hx]; simpa using h)))
    generalize b[i] = c at hx q1 q0
    have hc := c.toNat_lt
    conv => lhs; whnf
    refine iteK_dec (fun h1 => ?_) (fun h1 => ?_)
    · rw [dec_t h1]
      conv => lhs; whnf
      refine iteK_dec (fun h2 => ?_) (fun h2 => ?_)
      · rw [dec_t h2]
        conv => lhs; whnf
        refine nextK_of (aop_ix rfl rfl rfl rfl (ixL_at' hz (bL_get hx) rfl)) ?_
        conv => lhs; whnf
        refine iteK_dec (fun h3 => ?_) (fun h3 => ?_)
        · rw [dec_t h3]
          conv => lhs; whnf
          refine Eq.trans (ihm (i + 1) _ lf _ (by rw [List.length_take]; omega) (by rw [List.length_take]; omega) (wrap_up hz (by omega)) (by omega) rfl) ?_
          (rw [q1 (by omega)])
        · rw [dec_f h3]
          conv => lhs; whnf
          refine Eq.trans (b := some (Fx.exit (0 : Nat), St.mk [((0 : Nat), AV.d (D.list (bL b))), ((5 : Nat), AV.d (D.int IntKind.i64 z))] [])) (by kernel_rfl) ?_
          (rw [q0 (by omega), hz]; rfl)
      · rw [dec_f h2]
        (exfalso; omega)
    · rw [dec_f h1]
      (exfalso; omega)
theorem dstep {v : Int} {c : UInt8} {d e : Nat} (hv : v = (d : Int)) (he : e = d * 128 + c.toNat % 128) (hl : e < 18446744073709551616) : IntKind.u64.wrap (IntKind.u64.wrap (v * 128) + IntKind.u64.wrap ((c.toNat : Int).tmod 128)) = (e : Int) := by
  subst hv he
  have hc := c.toNat_lt
  rw [Int.tmod_eq_emod_of_nonneg (by omega), Go.Rx.wrap_u64 (n := (d : Int) * 128) (by omega) (by omega), Go.Rx.wrap_u64 (n := (c.toNat : Int) % 128) (by omega) (by omega), Go.Rx.wrap_u64 (by omega) (by omega)]
  omega
theorem rd81M (j : Nat) (b : List UInt8) (hb : b.length ≤ maxLen) (n : Nat) (hn : n < b.length) (hw : dv (b.take (n + 1)) < 18446744073709551616) {lp : LP} (hlp : lp = lpOf Try.prog cfg (icall Try.prog cfg j) Try.f81.ntmps 81 j (([] : Hp).map (·.1))) :
    ∀ (m : Nat) (w v : Int) (lf : Nat) (st : St), w = (m : Int) - 1 → m ≤ n + 1 → v = ((dv ((b.take (n + 1)).drop m) : Nat) : Int) → m < lf → prune [] [0, 5, 6, 7] st = some ⟨[(0, .d (.list (bL b))), (5, .d (.int .i64 n)), (6, .d (.int .u64 v)), (7, .d (.int .i64 w))], []⟩ →
      loopK Try.prog cfg (icall Try.prog cfg j) lp Try.f81.ntmps 81 [] (bodyAt Try.f81 12) lf st (exitP [] (some [5, 6])) = some (.exit 2, ⟨[(5, .d (.int .i64 n)), (6, .d (.int .u64 ((dv (b.take (n + 1)) : Nat) : Int)))], []⟩) := by
  intro m
  induction m with
  | zero =>
    intro w v lf st hwz hle hv hlf hp
    obtain ⟨lf, rfl⟩ : ∃ n, lf = n + 1 := ⟨lf - 1, by omega⟩
    refine loop_step hp ?_
    have hend : ¬ w ≥ 0 := by omega
    rw [List.drop_zero] at hv
    conv => lhs; whnf
    refine iteK_dec_f hend ?_
    conv => lhs; whnf
    refine Eq.trans (b := some (Fx.exit (2 : Nat), St.mk [((5 : Nat), AV.d (D.int IntKind.i64 ↑n)), ((6 : Nat), AV.d (D.int IntKind.u64 v))] [])) (by kernel_rfl) ?_
    (rw [hv])
  | succ m ihm =>
    intro w v lf st hwz hle hv hlf hp
    obtain ⟨lf, rfl⟩ : ∃ n, lf = n + 1 := ⟨lf - 1, by omega⟩
    refine loop_step hp ?_
    have hend : w ≥ 0 := by omega
    have hx : b[m]? = some (b[m]'(by omega)) := List.getElem?_eq_getElem (by omega)
    have hs := dv_step (b := b) (n := n) (i := m) (by omega) hn
    have hm := dv_drop_mono (b := b.take (n + 1)) m
    have hmx : (maxLen : Int) ≤ 9223372036854775807 := by decide
    generalize (b[m]'(by omega)) = c at hx hs
    conv => lhs; whnf
    refine iteK_dec_t hend ?_
    conv => lhs; whnf
    refine nextK_of (aop_ix rfl rfl rfl rfl (ixL_at' (n := m) (by omega) (bL_get hx) rfl)) ?_
    conv => lhs; whnf
    refine Eq.trans (ihm _ _ lf _ (by rw [Go.Rx.wrap_i64 (by omega) (by omega)]; omega) (by omega) (dstep hv hs (by omega)) (by omega) rfl) ?_
    rfl
theorem readU81 (b : List UInt8) (hb : b.length ≤ maxLen) (k : Nat) (hk : 13 < k) : icall Try.prog cfg k 81 [.d (.list (bL b))] [] = some (.ret (.tuple [.d (.int .u64 (rdU b).1), .d (.int .i64 (rdU b).2.1), .d (.int .i64 (rdU b).2.2)]), []) := by
  obtain ⟨k, rfl⟩ : ∃ j, k = j + 1 := ⟨k - 1, by omega⟩
  have hl := fun lp hlp st => rd81L k b hb (lp := lp) hlp (b.take 10).length 0 0 k st rfl (Nat.zero_le _) rfl (by rw [List.length_take]; omega)
  rw [List.drop_zero] at hl
  have hlen := bL_len b
  obtain ⟨g1, g2⟩ := hiN_le 10 b
  have h10 := hiN_get 10 b 9
  have hr := rdU_hi b
  have hn0 : 0 + hiN (10 - 0) b = hiN 10 b := Nat.zero_add _
  rw [hn0] at hl
  have hw := fun h1 h2 => dv_word (b := b) (n := hiN 10 b) h1 h2
  generalize hiN 10 b = n at *
  have hxg : ∀ i, i < b.length → b[i]? = some (b.getD i 0) := fun i h => by rw [List.getD_eq_getElem?_getD, List.getElem?_eq_getElem h]; rfl
  have hx9' := hxg 9
  have hxn' := hxg n
  clear hxg
  have hmx : (maxLen : Int) ≤ 9223372036854775807 := by decide
  generalize b.getD 9 0 = c9 at *
  generalize b.getD n 0 = cn at *
  rw [icall_body rfl Try.func81]
  obtain ⟨lp, hlp⟩ : ∃ lp, lp = lpOf Try.prog cfg (icall Try.prog cfg k) Try.f81.ntmps 81 k (([] : Hp).map (·.1)) := ⟨_, rfl⟩
  rw [← hlp]
  conv => lhs; whnf
  refine nextK_of (loop_at hlp (hl lp hlp _ rfl)) ?_
  conv => lhs; whnf
  refine iteK_dec (fun h1 => ?_) (fun h1 => ?_)
  · rw [dec_t h1]
    conv => lhs; whnf
    refine iteK_dec (fun h2 => ?_) (fun h2 => ?_)
    · rw [dec_t h2]
      conv => lhs; whnf
      refine Eq.trans (b := some (Res.ret (AV.tuple [AV.d (D.int IntKind.u64 (0 : Int)), AV.d (D.int IntKind.i64 (0 : Int)), AV.d (D.int IntKind.i64 (5 : Int))]), [])) (by kernel_rfl) ?_
      (rw [hr, if_pos (by omega)]; rfl)
    · rw [dec_f h2]
      conv => lhs; whnf
      refine iteK_dec (fun h3 => ?_) (fun h3 => ?_)
      · rw [dec_t h3]
        conv => lhs; whnf
        refine nextK_of (aop_ix rfl rfl rfl rfl (ixL_at' (n := 9) rfl (bL_get (hx9' (by omega))) rfl)) ?_
        conv => lhs; whnf
        refine iteK_dec (fun h4 => ?_) (fun h4 => ?_)
        · rw [dec_t h4]
          conv => lhs; whnf
          refine Eq.trans (b := some (Res.ret (AV.tuple [AV.d (D.int IntKind.u64 (0 : Int)), AV.d (D.int IntKind.i64 (0 : Int)), AV.d (D.int IntKind.i64 (2 : Int))]), [])) (by kernel_rfl) ?_
          (rw [hr, if_neg (by omega), if_pos (by omega)]; rfl)
        · rw [dec_f h4]
          conv => lhs; whnf
          refine iteK_dec (fun h5 => ?_) (fun h5 => ?_)
          · rw [dec_t h5]
            conv => lhs; whnf
            refine nextK_of (aop_ix rfl rfl rfl rfl (ixL_at' (n := n) rfl (bL_get (hxn' (by omega))) rfl)) ?_
            conv => lhs; whnf
            refine iteK_beq (fun h6 => ?_) (fun h6 => ?_)
            · rw [beq_t h6]
              conv => lhs; whnf
              refine Eq.trans (b := some (Res.ret (AV.tuple [AV.d (D.int IntKind.u64 (0 : Int)), AV.d (D.int IntKind.i64 (0 : Int)), AV.d (D.int IntKind.i64 (2 : Int))]), [])) (by kernel_rfl) ?_
              (rw [hr, if_neg (by omega), if_neg (by omega), if_pos (by omega)]; rfl)
            · rw [beq_f h6]
              conv => lhs; whnf
              refine nextK_of (loop_at hlp (rd81M k b hb n (by omega) (hw (by omega) (by omega) (by omega)) hlp (n + 1) _ _ k _ (by omega) (by omega) (by rw [List.drop_eq_nil_of_le (by rw [List.length_take]; omega)]; rfl) (by omega) rfl)) ?_
              conv => lhs; whnf
              refine Eq.trans (b := some (Res.ret (AV.tuple [AV.d (D.int IntKind.u64 ↑(dv (List.take (n + (1 : Nat)) b))), AV.d (D.int IntKind.i64 (IntKind.wrap IntKind.i64 (↑n + (1 : Int)))), AV.d (D.int IntKind.i64 (0 : Int))]), [])) (by kernel_rfl) ?_
              (rw [hr, if_neg (by omega), if_neg (by omega), if_neg (by omega), wrap_up (z := (n : Int)) rfl (by omega)])
          · rw [dec_f h5]
            (exfalso; omega)
      · rw [dec_f h3]
        conv => lhs; whnf
        refine iteK_dec (fun h4 => ?_) (fun h4 => ?_)
        · rw [dec_t h4]
          conv => lhs; whnf
          refine nextK_of (aop_ix rfl rfl rfl rfl (ixL_at' (n := n) rfl (bL_get (hxn' (by omega))) rfl)) ?_
          conv => lhs; whnf
          refine iteK_beq (fun h5 => ?_) (fun h5 => ?_)
          · rw [beq_t h5]
            conv => lhs; whnf
            refine Eq.trans (b := some (Res.ret (AV.tuple [AV.d (D.int IntKind.u64 (0 : Int)), AV.d (D.int IntKind.i64 (0 : Int)), AV.d (D.int IntKind.i64 (2 : Int))]), [])) (by kernel_rfl) ?_
            (rw [hr, if_neg (by omega), if_neg (by omega), if_pos (by omega)]; rfl)
          · rw [beq_f h5]
            conv => lhs; whnf
            refine nextK_of (loop_at hlp (rd81M k b hb n (by omega) (hw (by omega) (by omega) (by omega)) hlp (n + 1) _ _ k _ (by omega) (by omega) (by rw [List.drop_eq_nil_of_le (by rw [List.length_take]; omega)]; rfl) (by omega) rfl)) ?_
            conv => lhs; whnf
            refine Eq.trans (b := some (Res.ret (AV.tuple [AV.d (D.int IntKind.u64 ↑(dv (List.take (n + (1 : Nat)) b))), AV.d (D.int IntKind.i64 (IntKind.wrap IntKind.i64 (↑n + (1 : Int)))), AV.d (D.int IntKind.i64 (0 : Int))]), [])) (by kernel_rfl) ?_
            (rw [hr, if_neg (by omega), if_neg (by omega), if_neg (by omega), wrap_up (z := (n : Int)) rfl (by omega)])
        · rw [dec_f h4]
          conv => lhs; whnf
          refine nextK_of (loop_at hlp (rd81M k b hb n (by omega) (hw (by omega) (by omega) (by omega)) hlp (n + 1) _ _ k _ (by omega) (by omega) (by rw [List.drop_eq_nil_of_le (by rw [List.length_take]; omega)]; rfl) (by omega) rfl)) ?_
          conv => lhs; whnf
          refine Eq.trans (b := some (Res.ret (AV.tuple [AV.d (D.int IntKind.u64 ↑(dv (List.take (n + (1 : Nat)) b))), AV.d (D.int IntKind.i64 (IntKind.wrap IntKind.i64 (↑n + (1 : Int)))), AV.d (D.int IntKind.i64 (0 : Int))]), [])) (by kernel_rfl) ?_
          (rw [hr, if_neg (by omega), if_neg (by omega), if_neg (by omega), wrap_up (z := (n : Int)) rfl (by omega)])
  · rw [dec_f h1]
    conv => lhs; whnf
    refine iteK_dec (fun h2 => ?_) (fun h2 => ?_)
    · rw [dec_t h2]
      conv => lhs; whnf
      refine nextK_of (aop_ix rfl rfl rfl rfl (ixL_at' (n := 9) rfl (bL_get (hx9' (by omega))) rfl)) ?_
      conv => lhs; whnf
      refine iteK_dec (fun h3 => ?_) (fun h3 => ?_)
      · rw [dec_t h3]
        conv => lhs; whnf
        refine Eq.trans (b := some (Res.ret (AV.tuple [AV.d (D.int IntKind.u64 (0 : Int)), AV.d (D.int IntKind.i64 (0 : Int)), AV.d (D.int IntKind.i64 (2 : Int))]), [])) (by kernel_rfl) ?_
        (rw [hr, if_neg (by omega), if_pos (by omega)]; rfl)
      · rw [dec_f h3]
        (exfalso; omega)
    · rw [dec_f h2]
      (exfalso; omega)
end Go.Rx11
