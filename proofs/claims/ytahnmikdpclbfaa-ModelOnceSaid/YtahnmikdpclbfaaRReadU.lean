/- A part of the proof of the law: what functions of the program come to, walked by Rx, or plain facts on it. -/
import Derived.Test.YtahnmikdpclbfaaRInt
import Derived.Test.YtahnmikdpclbfaaRJ0
open Go Go.Rx Go.Proofs Go.Rx11 Go.RxTree
set_option maxRecDepth 1000000
set_option maxHeartbeats 4000000
set_option linter.unusedVariables false
set_option linter.unusedSimpArgs false
namespace Go.Rx11
theorem aop_shl {P : Program} {dst : Nat} {ρ : Operand → AV} {H : Hp} {t u : TypeId} {x y : Operand} {k k' : IntKind} {a b r : Int} (hx : ρ x = .d (.int k a)) (hy : ρ y = .d (.int k' b)) (hb : 0 ≤ b) (hr : k.wrap (a * 2 ^ (min b.toNat k.bits)) = r) :
    aop P dst ρ H (.binOp .shl t x y u) = some (.d (.int k r), H) := by
  subst hr
  simp only [aop, aBin, hx, hy, bShift, if_neg (show ¬ b < 0 by omega), true_or, if_true, Option.map_some]
theorem pow128 (i : Nat) : (2 : Int) ^ (7 * i) = ((128 ^ i : Nat) : Int) := by
  rw [Int.pow_mul]; norm_cast
theorem wc {c : UInt8} : IntKind.u64.wrap (c.toNat : Int) = (c.toNat : Int) := Go.Rx.wrap_u64 (by omega) (by have := c.toNat_lt; omega)
theorem shl7 {i : Nat} {z : Int} {c : UInt8} (hz : z = (i : Int)) (hi : i ≤ 9) (h9 : z = 9 → ¬ IntKind.u64.wrap (c.toNat : Int) > 1) :
    IntKind.u64.wrap (bits .and .u64 (IntKind.u64.wrap (c.toNat : Int)) 127 * 2 ^ (min (IntKind.i64.wrap (7 * z)).toNat IntKind.u64.bits)) = ((c.toNat % 128 * 128 ^ i : Nat) : Int) := by
  have hc := c.toNat_lt
  rw [wc] at h9
  have e : min (IntKind.i64.wrap (7 * z)).toNat IntKind.u64.bits = 7 * i := by
    rw [Go.Rx.wrap_i64 (by omega) (by omega), show IntKind.u64.bits = 64 from rfl]; omega
  rw [wc, e, and127 (by omega) (by omega), pow128]
  have e2 : (c.toNat : Int) % 128 * ((128 ^ i : Nat) : Int) = ((c.toNat % 128 * 128 ^ i : Nat) : Int) := by push_cast; rfl
  rw [e2]
  refine Go.Rx.wrap_u64 (by omega) ?_
  by_cases h : i = 9
  · have h1 := h9 (by omega)
    subst h
    have : c.toNat % 128 * 128 ^ 9 ≤ 1 * 128 ^ 9 := Nat.mul_le_mul_right _ (by omega)
    omega
  · have : 128 ^ i ≤ 128 ^ 8 := Nat.pow_le_pow_right (by omega) (by omega)
    have : c.toNat % 128 * 128 ^ i ≤ 127 * 128 ^ 8 := Nat.mul_le_mul (by omega) this
    omega
theorem or7 {i acc : Nat} {y : Int} {c : UInt8} (hy : y = (acc : Int)) (ha : acc < 128 ^ i) (hi : i ≤ 9) (h9 : i = 9 → c.toNat ≤ 1) :
    bits .or .u64 y ((c.toNat % 128 * 128 ^ i : Nat) : Int) = ((acc + c.toNat % 128 * 128 ^ i : Nat) : Int) := by
  subst hy
  have hc := c.toNat_lt
  have p0 : 128 ^ i ≤ 128 ^ 9 := Nat.pow_le_pow_right (by omega) hi
  have p1 : (2 : Int) ^ (7 * i) = ((128 ^ i : Nat) : Int) := pow128 i
  have p2 : c.toNat % 128 * 128 ^ i < 18446744073709551616 := by
    by_cases h : i = 9
    · have h1 := h9 h
      subst h
      have : c.toNat % 128 * 128 ^ 9 ≤ 1 * 128 ^ 9 := Nat.mul_le_mul_right _ (by omega)
      omega
    · have : 128 ^ i ≤ 128 ^ 8 := Nat.pow_le_pow_right (by omega) (by omega)
      have : c.toNat % 128 * 128 ^ i ≤ 127 * 128 ^ 8 := Nat.mul_le_mul (by omega) this
      omega
  rw [or_join (7 * i) (by omega) (by rw [p1]; norm_cast; exact Nat.mul_mod_left _ _) (by omega) (by omega) (by rw [p1]; omega) (by omega)]
  push_cast; rfl
theorem rd80L (j : Nat) (b : List UInt8) (hb : b.length ≤ maxLen) (mz : Int) (hmz : mz = ((b.take 10).length : Int)) {lp : LP} (hlp : lp = lpOf Try.prog cfg (icall Try.prog cfg j) Try.f80.ntmps 80 j (([] : Hp).map (·.1))) :
    ∀ (m i : Nat) (z : Int) (acc : Nat) (y : Int) (lf : Nat) (st : St), (b.take 10).length - i = m → i ≤ (b.take 10).length → z = (i : Int) → acc < 128 ^ i → y = (acc : Int) → i ≤ 9 → m < lf → prune [] [0, 5, 10, 11] st = some ⟨[(0, .d (.list (bL b))), (5, .d (.int .u64 y)), (10, .d (.int .i64 mz)), (11, .d (.int .i64 z))], []⟩ →
      loopK Try.prog cfg (icall Try.prog cfg j) lp Try.f80.ntmps 80 [] (bodyAt Try.f80 3) lf st (exitP [] (some [2, 3, 4])) = rd80R b (rdUG i acc (b.drop i)) := by
  intro m
  induction m with
  | zero =>
    intro i z acc y lf st hi hle hz ha hy hi9 hlf hp
    obtain ⟨lf, rfl⟩ : ∃ n, lf = n + 1 := ⟨lf - 1, by omega⟩
    refine loop_step hp ?_
    have hend : ¬ z < mz := by rw [List.length_take] at hi hle hmz; omega
    rw [List.length_take] at hi hle
    rw [List.drop_eq_nil_of_le (by omega)]
    conv => lhs; whnf
    refine iteK_dec_f hend ?_
    conv => lhs; whnf
    refine Eq.trans (b := some (Fx.exit (0 : Nat), St.mk [((2 : Nat), AV.undef), ((3 : Nat), AV.undef), ((4 : Nat), AV.undef)] [])) (by kernel_rfl) ?_
    rfl
  | succ m ihm =>
    intro i z acc y lf st hi hle hz ha hy hi9 hlf hp
    obtain ⟨lf, rfl⟩ : ∃ n, lf = n + 1 := ⟨lf - 1, by omega⟩
    refine loop_step hp ?_
    have hend : z < mz := by rw [List.length_take] at hi hle hmz; omega
    rw [List.length_take] at hi hle
    have hx : b[i]? = some b[i] := List.getElem?_eq_getElem (by omega)
    have hd : b.drop i = b[i] :: b.drop (i + 1) := List.drop_eq_getElem_cons (by omega)
    generalize b[i] = c at hx hd
    have hc := c.toNat_lt
    have hw := wc (c := c)
    have hmx : (maxLen : Int) ≤ 9223372036854775807 := by decide
    have r1 : i = 9 → 1 < c.toNat → rdUG i acc (b.drop i) = (0, 0, 2) := fun e1 e2 => by rw [hd, rdUG, if_pos ⟨e1, e2⟩]
    have r2 : ¬ (i = 9 ∧ 1 < c.toNat) → c.toNat < 128 → c.toNat = 0 → 0 < i → rdUG i acc (b.drop i) = (0, 0, 2) := fun e1 e2 e3 e4 => by rw [hd, rdUG, if_neg e1, if_pos e2, if_pos ⟨e3, e4⟩]
    have r3 : ¬ (i = 9 ∧ 1 < c.toNat) → c.toNat < 128 → ¬ (c.toNat = 0 ∧ 0 < i) → rdUG i acc (b.drop i) = (acc + c.toNat % 128 * 128 ^ i, i + 1, 0) := fun e1 e2 e3 => by rw [hd, rdUG, if_neg e1, if_pos e2, if_neg e3]
    have r4 : ¬ (i = 9 ∧ 1 < c.toNat) → ¬ c.toNat < 128 → rdUG i acc (b.drop i) = rdUG (i + 1) (acc + c.toNat % 128 * 128 ^ i) (b.drop (i + 1)) := fun e1 e2 => by rw [hd, rdUG, if_neg e1, if_neg e2]
    have hp : acc + c.toNat % 128 * 128 ^ i < 128 ^ (i + 1) := by
      have : c.toNat % 128 * 128 ^ i ≤ 127 * 128 ^ i := Nat.mul_le_mul_right _ (by omega)
      rw [Nat.pow_succ]; omega
    conv => lhs; whnf
    refine iteK_dec_t hend ?_
    conv => lhs; whnf
    refine nextK_of (aop_ix rfl rfl rfl rfl (ixL_at' hz (bL_get hx) rfl)) ?_
    conv => lhs; whnf
    refine iteK_beq (fun h1 => ?_) (fun h1 => ?_)
    · obtain rfl : z = (9 : Int) := h1
      conv => lhs; whnf
      refine iteK_dec (fun h2 => ?_) (fun h2 => ?_)
      · rw [dec_t h2]
        conv => lhs; whnf
        refine Eq.trans (b := some (Fx.ret, St.mk [((2 : Nat), AV.d (D.int IntKind.u64 (0 : Int))), ((3 : Nat), AV.nilsl), ((4 : Nat), AV.d (D.int IntKind.i64 (2 : Int)))] [])) (by kernel_rfl) ?_
        (rw [r1 (by omega) (by omega)]; rfl)
      · rw [dec_f h2]
        conv => lhs; whnf
        refine iteK_dec (fun h3 => ?_) (fun h3 => ?_)
        · rw [dec_t h3]
          conv => lhs; whnf
          refine iteK_beq (fun h4 => ?_) (fun h4 => ?_)
          · rw [beq_t h4]
            conv => lhs; whnf
            refine Eq.trans (b := some (Fx.ret, St.mk [((2 : Nat), AV.d (D.int IntKind.u64 (0 : Int))), ((3 : Nat), AV.nilsl), ((4 : Nat), AV.d (D.int IntKind.i64 (2 : Int)))] [])) (by kernel_rfl) ?_
            (rw [r2 (by omega) (by omega) (by omega) (by omega)]; rfl)
          · rw [beq_f h4]
            conv => lhs; whnf
            refine iteO_t (by kernel_rfl) ?_
            conv => lhs; whnf
            refine nextK_of (aop_sliceB (a := i + 1) (b := b.length) rfl rfl rfl rfl rfl rfl (bnds_from (wrap_up hz (by omega)) (by omega))) ?_
            conv => lhs; whnf
            refine iteO_t (by kernel_rfl) ?_
            conv => lhs; whnf
            refine Eq.trans (b := some (Fx.ret, St.mk [((2 : Nat), AV.d (D.int IntKind.u64 (bits BinOp.or IntKind.u64 y (IntKind.wrap IntKind.u64 (bits BinOp.and IntKind.u64 (IntKind.wrap IntKind.u64 ↑c.toBitVec.toFin.1) (127 : Int) * (2 : Int) ^ min (Int.toNat (IntKind.wrap IntKind.i64 ((7 : Int) * (9 : Int)))) (IntKind.bits IntKind.u64)))))), ((3 : Nat), AV.d (D.list (bL (List.drop (i + (1 : Nat)) (List.take (List.length b) b))))), ((4 : Nat), AV.d (D.int IntKind.i64 (0 : Int)))] [])) (by kernel_rfl) ?_
            (have hz9 : (9 : Int) = (i : Int) := hz; rw [r3 (by omega) (by omega) (by omega), List.take_length]; exact congrArg (fun q => some (Fx.ret, (⟨[(2, AV.d (D.int .u64 q)), (3, .d (.list (bL (b.drop (i + 1))))), (4, .d (.int .i64 0))], []⟩ : St))) ((congrArg (bits .or .u64 y) (shl7 hz (by omega) (fun hh => by omega))).trans (or7 hy ha (by omega) (fun hh => by omega))))
        · rw [dec_f h3]
          (exfalso; omega)
    · rw [beq_f h1]
      conv => lhs; whnf
      refine nextK_of (aop_shl rfl rfl (by rw [Go.Rx.wrap_i64 (by omega) (by omega)]; omega) (shl7 hz (by omega) (fun hh => by omega))) ?_
      conv => lhs; whnf
      refine iteK_dec (fun h2 => ?_) (fun h2 => ?_)
      · rw [dec_t h2]
        conv => lhs; whnf
        refine iteK_beq (fun h3 => ?_) (fun h3 => ?_)
        · rw [beq_t h3]
          conv => lhs; whnf
          refine iteK_dec (fun h4 => ?_) (fun h4 => ?_)
          · rw [dec_t h4]
            conv => lhs; whnf
            refine Eq.trans (b := some (Fx.ret, St.mk [((2 : Nat), AV.d (D.int IntKind.u64 (0 : Int))), ((3 : Nat), AV.nilsl), ((4 : Nat), AV.d (D.int IntKind.i64 (2 : Int)))] [])) (by kernel_rfl) ?_
            (rw [r2 (by omega) (by omega) (by omega) (by omega)]; rfl)
          · rw [dec_f h4]
            conv => lhs; whnf
            refine iteO_t (by kernel_rfl) ?_
            conv => lhs; whnf
            refine nextK_of (aop_sliceB (a := i + 1) (b := b.length) rfl rfl rfl rfl rfl rfl (bnds_from (wrap_up hz (by omega)) (by omega))) ?_
            conv => lhs; whnf
            refine iteO_t (by kernel_rfl) ?_
            conv => lhs; whnf
            refine Eq.trans (b := some (Fx.ret, St.mk [((2 : Nat), AV.d (D.int IntKind.u64 (bits BinOp.or IntKind.u64 y ↑(c.toBitVec.toFin.1 % (128 : Nat) * Nat.pow (128 : Nat) i)))), ((3 : Nat), AV.d (D.list (bL (List.drop (i + (1 : Nat)) (List.take (List.length b) b))))), ((4 : Nat), AV.d (D.int IntKind.i64 (0 : Int)))] [])) (by kernel_rfl) ?_
            (rw [r3 (by omega) (by omega) (by omega), List.take_length]; exact congrArg (fun q => some (Fx.ret, (⟨[(2, AV.d (D.int .u64 q)), (3, .d (.list (bL (b.drop (i + 1))))), (4, .d (.int .i64 0))], []⟩ : St))) (or7 hy ha (by omega) (fun hh => by omega)))
        · rw [beq_f h3]
          conv => lhs; whnf
          refine iteO_t (by kernel_rfl) ?_
          conv => lhs; whnf
          refine nextK_of (aop_sliceB (a := i + 1) (b := b.length) rfl rfl rfl rfl rfl rfl (bnds_from (wrap_up hz (by omega)) (by omega))) ?_
          conv => lhs; whnf
          refine iteO_t (by kernel_rfl) ?_
          conv => lhs; whnf
          refine Eq.trans (b := some (Fx.ret, St.mk [((2 : Nat), AV.d (D.int IntKind.u64 (bits BinOp.or IntKind.u64 y ↑(c.toBitVec.toFin.1 % (128 : Nat) * Nat.pow (128 : Nat) i)))), ((3 : Nat), AV.d (D.list (bL (List.drop (i + (1 : Nat)) (List.take (List.length b) b))))), ((4 : Nat), AV.d (D.int IntKind.i64 (0 : Int)))] [])) (by kernel_rfl) ?_
          (rw [r3 (by omega) (by omega) (by omega), List.take_length]; exact congrArg (fun q => some (Fx.ret, (⟨[(2, AV.d (D.int .u64 q)), (3, .d (.list (bL (b.drop (i + 1))))), (4, .d (.int .i64 0))], []⟩ : St))) (or7 hy ha (by omega) (fun hh => by omega)))
      · rw [dec_f h2]
        conv => lhs; whnf
        refine Eq.trans (ihm (i + 1) _ _ _ lf _ (by rw [List.length_take]; omega) (by rw [List.length_take]; omega) (wrap_up hz (by omega)) hp (or7 hy ha (by omega) (fun hh => by omega)) (by omega) (by omega) rfl) ?_
        (rw [r4 (by omega) (by omega)])
/-- What reading a number comes to. -/
def uAV (b : List UInt8) : AV := .tuple [.d (.int .u64 (rdU b).1), .d (.list (bL (rest b (rdU b).2.1 (rdU b).2.2))), .d (.int .i64 (rdU b).2.2)]
theorem rdU_e (b : List UInt8) : ∀ {r : Nat × Nat × Int}, rdU b = r → uAV b = .tuple [.d (.int .u64 r.1), .d (.list (bL (rest b r.2.1 r.2.2))), .d (.int .i64 r.2.2)] := fun h => by subst h; rfl
theorem min10 (b : List UInt8) : (if (if false = true then decide ((10 : Int) > ((bL b).length : Int)) else decide ((10 : Int) < ((bL b).length : Int))) = true then (10 : Int) else ((bL b).length : Int)) = (((b.take 10).length : Nat) : Int) := by
  rw [bL_len, List.length_take]
  by_cases h : (10 : Int) < (b.length : Int)
  · simp [h]; omega
  · simp [h]; omega
theorem readU80 (b : List UInt8) (hb : b.length ≤ maxLen) (k : Nat) (hk : 12 < k) : icall Try.prog cfg k 80 [.d (.list (bL b))] [] = some (.ret (.tuple [.d (.int .u64 (rdU b).1), .d (.list (bL (rest b (rdU b).2.1 (rdU b).2.2))), .d (.int .i64 (rdU b).2.2)]), []) := by
  obtain ⟨k, rfl⟩ : ∃ j, k = j + 1 := ⟨k - 1, by omega⟩
  have hl := fun lp hlp st mz hmz => rd80L k b hb mz hmz (lp := lp) hlp (b.take 10).length 0 0 0 0 k st rfl (Nat.zero_le _) rfl (by decide) rfl (by omega) (by rw [List.length_take]; omega)
  rw [List.drop_zero] at hl
  generalize hr : rdU b = r at *
  obtain ⟨n, kk, e⟩ := r
  have hr' : rdUG 0 0 b = (n, kk, e) := hr
  rw [hr'] at hl
  by_cases h5 : e = 5
  · subst h5
    obtain ⟨rfl, rfl⟩ := rdU_e0 hr (by decide)
    rw [icall_body rfl Try.func80]
    obtain ⟨lp, hlp⟩ : ∃ lp, lp = lpOf Try.prog cfg (icall Try.prog cfg k) Try.f80.ntmps 80 k (([] : Hp).map (·.1)) := ⟨_, rfl⟩
    rw [← hlp]
    conv => lhs; whnf
    refine nextK_of (loop_at hlp (hl lp hlp _ _ (min10 b) rfl)) ?_
    conv => lhs; whnf
    refine Eq.trans (b := some (Res.ret (AV.tuple [AV.d (D.int IntKind.u64 (0 : Int)), AV.d (D.list []), AV.d (D.int IntKind.i64 (5 : Int))]), [])) (by kernel_rfl) ?_
    rfl
  · by_cases h0 : e = 0
    · subst h0
      rw [icall_body rfl Try.func80]
      obtain ⟨lp, hlp⟩ : ∃ lp, lp = lpOf Try.prog cfg (icall Try.prog cfg k) Try.f80.ntmps 80 k (([] : Hp).map (·.1)) := ⟨_, rfl⟩
      rw [← hlp]
      conv => lhs; whnf
      refine nextK_of (loop_at hlp (hl lp hlp _ _ (min10 b) rfl)) ?_
      conv => lhs; whnf
      refine Eq.trans (b := some (Res.ret (AV.tuple [AV.d (D.int IntKind.u64 ↑n), AV.d (D.list (bL (List.drop kk b))), AV.d (D.int IntKind.i64 (0 : Int))]), [])) (by kernel_rfl) ?_
      rfl
    · obtain ⟨rfl, rfl⟩ := rdU_e0 hr h0
      rw [rd80R_2 h5 h0] at hl
      rw [rest_e _ _ h0]
      rw [icall_body rfl Try.func80]
      obtain ⟨lp, hlp⟩ : ∃ lp, lp = lpOf Try.prog cfg (icall Try.prog cfg k) Try.f80.ntmps 80 k (([] : Hp).map (·.1)) := ⟨_, rfl⟩
      rw [← hlp]
      conv => lhs; whnf
      refine nextK_of (loop_at hlp (hl lp hlp _ _ (min10 b) rfl)) ?_
      conv => lhs; whnf
      refine Eq.trans (b := some (Res.ret (AV.tuple [AV.d (D.int IntKind.u64 (0 : Int)), AV.d (D.list []), AV.d (D.int IntKind.i64 e)]), [])) (by kernel_rfl) ?_
      rfl
end Go.Rx11
