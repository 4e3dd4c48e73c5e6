/- A part of the proof of the law: what functions of the program come to, walked by Rx, or plain facts on it. -/
import Derived.Test.YtahnmikdpclbfaaRInt
import Derived.Test.YtahnmikdpclbfaaRSpecZ
section
open Go Go.Rx Go.Proofs Go.Rx11 Go.RxTree
set_option maxRecDepth 1000000
set_option maxHeartbeats 4000000
set_option linter.unusedVariables false
set_option linter.unusedSimpArgs false
namespace Go.Rx11
theorem aop_shl {P : Program} {dst : Nat} {ρ : Operand → AV} {H : Hp} {t u : TypeId} {x y : Operand} {k k' : IntKind} {a b r : Int} (hx : ρ x = .d (.int k a)) (hy : ρ y = .d (.int k' b)) (hb : 0 ≤ b) (hr : k.wrap (a * 2 ^ (min b.toNat k.bits)) = r) :
    aop P dst ρ H (.binOp .shl t x y u) = some (.d (.int k r), H) := by
  subst hr
  simp only [aop, aBin, hx, hy, bShift, if_neg (show ¬ b < 0 by omega), true_or, if_true, Option.map_some]
theorem pow128 (i : Nat) : (2 : Int) ^ (7 * i) = ((128 ^ i : Nat) : Int) := by
  rw [Int.pow_mul]; norm_cast
theorem wc {c : UInt8} : IntKind.u64.wrap (c.toNat : Int) = (c.toNat : Int) := Go.Rx.wrap_u64 (by omega) (by have := c.toNat_lt; omega)
theorem shl7 {i : Nat} {z : Int} {c : UInt8} (hz : z = (i : Int)) (hi : i ≤ 9) (h9 : z = 9 → ¬ IntKind.u64.wrap (c.toNat : Int) > 1) :
    IntKind.u64.wrap (bits .and .u64 (IntKind.u64.wrap (c.toNat : Int)) 127 * 2 ^ (min (IntKind.i64.wrap (7 * z)).toNat IntKind.u64.bits)) = ((c.toNat % 128 * 128 ^ i : Nat) : Int) := by
  have hc := c.toNat_lt
  rw [wc] at h9
  have e : min (IntKind.i64.wrap (7 * z)).toNat IntKind.u64.bits = 7 * i := by
    rw [Go.Rx.wrap_i64 (by omega) (by omega), show IntKind.u64.bits = 64 from rfl]; omega
  rw [wc, e, and127 (by omega) (by omega), pow128]
  have e2 : (c.toNat : Int) % 128 * ((128 ^ i : Nat) : Int) = ((c.toNat % 128 * 128 ^ i : Nat) : Int) := by push_cast; rfl
  rw [e2]
  refine Go.Rx.wrap_u64 (by omega) ?_
  by_cases h : i = 9
  · have h1 := h9 (by omega)
    subst h
    have : c.toNat % 128 * 128 ^ 9 ≤ 1 * 128 ^ 9 := Nat.mul_le_mul_right _ (by omega)
    omega
  · have : 128 ^ i ≤ 128 ^ 8 := Nat.pow_le_pow_right (by omega) (by omega)
    have : c.toNat % 128 * 128 ^ i ≤ 127 * 128 ^ 8 := Nat.mul_le_mul (by omega) this
    omega
theorem or7 {i acc : Nat} {y : Int} {c : UInt8} (hy : y = (acc : Int)) (ha : acc < 128 ^ i) (hi : i ≤ 9) (h9 : i = 9 → c.toNat ≤ 1) :
    bits .or .u64 y ((c.toNat % 128 * 128 ^ i : Nat) : Int) = ((acc + c.toNat % 128 * 128 ^ i : Nat) : Int) := by
  subst hy
  have hc := c.toNat_lt
  have p0 : 128 ^ i ≤ 128 ^ 9 := Nat.pow_le_pow_right (by omega) hi
  have p1 : (2 : Int) ^ (7 * i) = ((128 ^ i : Nat) : Int) := pow128 i
  have p2 : c.toNat % 128 * 128 ^ i < 18446744073709551616 := by
    by_cases h : i = 9
    · have h1 := h9 h
      subst h
      have : c.toNat % 128 * 128 ^ 9 ≤ 1 * 128 ^ 9 := Nat.mul_le_mul_right _ (by omega)
      omega
    · have : 128 ^ i ≤ 128 ^ 8 := Nat.pow_le_pow_right (by omega) (by omega)
      have : c.toNat % 128 * 128 ^ i ≤ 127 * 128 ^ 8 := Nat.mul_le_mul (by omega) this
      omega
  rw [or_join (7 * i) (by omega) (by rw [p1]; norm_cast; exact Nat.mul_mod_left _ _) (by omega) (by omega) (by rw [p1]; omega) (by omega)]
  push_cast; rfl
theorem rd80L (j : Nat) (b : List UInt8) (hb : b.length ≤ maxLen) (mz : Int) (hmz : mz = ((b.take 10).length : Int)) {lp : LP} (hlp : lp = lpOf Try.prog cfg (icall Try.prog cfg j) Try.f80.ntmps 80 j (([] : Hp).map (·.1))) :
    ∀ (m i : Nat) (z : Int) (acc : Nat) (y : Int) (lf : Nat) (st : St), (b.take 10).length - i = m → i ≤ (b.take 10).length → z = (i : Int) → acc < 128 ^ i → y = (acc : Int) → i ≤ 9 → m < lf → prune [] [0, 5, 10, 11] st = some ⟨[(0, .d (.list (bL b))), (5, .d (.int .u64 y)), (10, .d (.int .i64 mz)), (11, .d (.int .i64 z))], []⟩ →
      loopK Try.prog cfg (icall Try.prog cfg j) lp Try.f80.ntmps 80 [] (bodyAt Try.f80 3) lf st (exitP [] (some [2, 3, 4])) = rd80R b (rdUG i acc (b.drop i)) := by
  intro m
  induction m with
  | zero =>
    intro i z acc y lf st hi hle hz ha hy hi9 hlf hp
    obtain ⟨lf, rfl⟩ : ∃ n, lf = n + 1 := ⟨lf - 1, by omega⟩
    refine loop_step hp ?_
    have hend : ¬ z < mz := by rw [List.length_take] at hi hle hmz; omega
    rw [List.length_take] at hi hle
    rw [List.drop_eq_nil_of_le (by omega)]
    conv => lhs; whnf
    refine iteK_dec_f hend ?_
    conv => lhs; whnf
    refine Eq.trans (b := some (Fx.exit (0 : Nat), St.mk [((2 : Nat), AV.undef), ((3 : Nat), AV.undef), ((4 : Nat), AV.undef)] [])) (by kernel_rfl) ?_
    rfl
  | succ m ihm =>
    intro i z acc y lf st hi hle hz ha hy hi9 hlf hp
    obtain ⟨lf, rfl⟩ : ∃ n, lf = n + 1 := ⟨lf - 1, by omega⟩
    refine loop_step hp ?_
    have hend : z < mz := by rw [List.length_take] at hi hle hmz; omega
    rw [List.length_take] at hi hle
    have hx : b[i]? = some b[i] := List.getElem?_eq_getElem (by omega)
    have hd : b.drop i = b[i] :: b.drop (i + 1) := List.drop_eq_getElem_cons (by omega)
    generalize b[i] = c at hx hd
    have hc := c.toNat_lt
    have hw := wc (c := c)
    have hmx : (maxLen : Int) ≤ 9223372036854775807 := by decide
    have r1 : i = 9 → 1 < c.toNat → rdUG i acc (b.drop i) = (0, 0, 2) := fun e1 e2 => by rw [hd, rdUG, if_pos ⟨e1, e2⟩]
    have r2 : ¬ (i = 9 ∧ 1 < c.toNat) → c.toNat < 128 → c.toNat = 0 → 0 < i → rdUG i acc (b.drop i) = (0, 0, 2) := fun e1 e2 e3 e4 => by rw [hd, rdUG, if_neg e1, if_pos e2, if_pos ⟨e3, e4⟩]
    have r3 : ¬ (i = 9 ∧ 1 < c.toNat) → c.toNat < 128 → ¬ (c.toNat = 0 ∧ 0 < i) → rdUG i acc (b.drop i) = (acc + c.toNat % 128 * 128 ^ i, i + 1, 0) := fun e1 e2 e3 => by rw [hd, rdUG, if_neg e1, if_pos e2, if_neg e3]
    have r4 : ¬ (i = 9 ∧ 1 < c.toNat) → ¬ c.toNat < 128 → rdUG i acc (b.drop i) = rdUG (i + 1) (acc + c.toNat % 128 * 128 ^ i) (b.drop (i + 1)) := fun e1 e2 => by rw [hd, rdUG, if_neg e1, if_neg e2]
    have hp : acc + c.toNat % 128 * 128 ^ i < 128 ^ (i + 1) := by
      have : c.toNat % 128 * 128 ^ i ≤ 127 * 128 ^ i := Nat.mul_le_mul_right _ (by omega)
      rw [Nat.pow_succ]; omega
    conv => lhs; whnf
    refine iteK_dec_t hend ?_
    conv => lhs; whnf
    refine nextK_of (aop_ix rfl rfl rfl rfl (ixL_at' hz (bL_get hx) rfl)) ?_
    conv => lhs; whnf
    refine iteK_beq (fun h1 => ?_) (fun h1 => ?_)
    · obtain rfl : z = (9 : Int) := h1
      conv => lhs; whnf
      refine iteK_dec (fun h2 => ?_) (fun h2 => ?_)
      · rw [dec_t h2]
        conv => lhs; whnf
        refine Eq.trans (b := some (Fx.ret, St.mk [((2 : Nat), AV.d (D.int IntKind.u64 (0 : Int))), ((3 : Nat), AV.nilsl), ((4 : Nat), AV.d (D.int IntKind.i64 (2 : Int)))] [])) (by kernel_rfl) ?_
        (rw [r1 (by omega) (by omega)]; rfl)
      · rw [dec_f h2]
        conv => lhs; whnf
        refine iteK_dec (fun h3 => ?_) (fun h3 => ?_)
        · rw [dec_t h3]
          conv => lhs; whnf
          refine iteK_beq (fun h4 => ?_) (fun h4 => ?_)
          · rw [beq_t h4]
            conv => lhs; whnf
            refine Eq.trans (b := some (Fx.ret, St.mk [((2 : Nat), AV.d (D.int IntKind.u64 (0 : Int))), ((3 : Nat), AV.nilsl), ((4 : Nat), AV.d (D.int IntKind.i64 (2 : Int)))] [])) (by kernel_rfl) ?_
            (rw [r2 (by omega) (by omega) (by omega) (by omega)]; rfl)
          · rw [beq_f h4]
            conv => lhs; whnf
            refine iteO_t (by kernel_rfl) ?_
            conv => lhs; whnf
            refine nextK_of (aop_sliceB (a := i + 1) (b := b.length) rfl rfl rfl rfl rfl rfl (bnds_from (wrap_up hz (by omega)) (by omega))) ?_
            conv => lhs; whnf
            refine iteO_t (by kernel_rfl) ?_
            conv => lhs; whnf
            refine Eq.trans (b := some (Fx.ret, St.mk [((2 : Nat), AV.d (D.int IntKind.u64 (bits BinOp.or IntKind.u64 y (IntKind.wrap IntKind.u64 (bits BinOp.and IntKind.u64 (IntKind.wrap IntKind.u64 ↑c.toBitVec.toFin.1) (127 : Int) * (2 : Int) ^ min (Int.toNat (IntKind.wrap IntKind.i64 ((7 : Int) * (9 : Int)))) (IntKind.bits IntKind.u64)))))), ((3 : Nat), AV.d (D.list (bL (List.drop (i + (1 : Nat)) (List.take (List.length b) b))))), ((4 : Nat), AV.d (D.int IntKind.i64 (0 : Int)))] [])) (by kernel_rfl) ?_
            (have hz9 : (9 : Int) = (i : Int) := hz; rw [r3 (by omega) (by omega) (by omega), List.take_length]; exact congrArg (fun q => some (Fx.ret, (⟨[(2, AV.d (D.int .u64 q)), (3, .d (.list (bL (b.drop (i + 1))))), (4, .d (.int .i64 0))], []⟩ : St))) ((congrArg (bits .or .u64 y) (shl7 hz (by omega) (fun hh => by omega))).trans (or7 hy ha (by omega) (fun hh => by omega))))
        · rw [dec_f h3]
          (exfalso; omega)
    · rw [beq_f h1]
      conv => lhs; whnf
      refine nextK_of (aop_shl rfl rfl (by rw [Go.Rx.wrap_i64 (by omega) (by omega)]; omega) (shl7 hz (by omega) (fun hh => by omega))) ?_
      conv => lhs; whnf
      refine iteK_dec (fun h2 => ?_) (fun h2 => ?_)
      · rw [dec_t h2]
        conv => lhs; whnf
        refine iteK_beq (fun h3 => ?_) (fun h3 => ?_)
        · rw [beq_t h3]
          conv => lhs; whnf
          refine iteK_dec (fun h4 => ?_) (fun h4 => ?_)
          · rw [dec_t h4]
            conv => lhs; whnf
            refine Eq.trans (b := some (Fx.ret, St.mk [((2 : Nat), AV.d (D.int IntKind.u64 (0 : Int))), ((3 : Nat), AV.nilsl), ((4 : Nat), AV.d (D.int IntKind.i64 (2 : Int)))] [])) (by kernel_rfl) ?_
            (rw [r2 (by omega) (by omega) (by omega) (by omega)]; rfl)
          · rw [dec_f h4]
            conv => lhs; whnf
            refine iteO_t (by kernel_rfl) ?_
            conv => lhs; whnf
            refine nextK_of (aop_sliceB (a := i + 1) (b := b.length) rfl rfl rfl rfl rfl rfl (bnds_from (wrap_up hz (by omega)) (by omega))) ?_
            conv => lhs; whnf
            refine iteO_t (by kernel_rfl) ?_
            conv => lhs; whnf
            refine Eq.trans (b := some (Fx.ret, St.mk [((2 : Nat), AV.d (D.int IntKind.u64 (bits BinOp.or IntKind.u64 y ↑(c.toBitVec.toFin.1 % (128 : Nat) * Nat.pow (128 : Nat) i)))), ((3 : Nat), AV.d (D.list (bL (List.drop (i + (1 : Nat)) (List.take (List.length b) b))))), ((4 : Nat), AV.d (D.int IntKind.i64 (0 : Int)))] [])) (by kernel_rfl) ?_
            (rw [r3 (by omega) (by omega) (by omega), List.take_length]; exact congrArg (fun q => some (Fx.ret, (⟨[(2, AV.d (D.int .u64 q)), (3, .d (.list (bL (b.drop (i + 1))))), (4, .d (.int .i64 0))], []⟩ : St))) (or7 hy ha (by omega) (fun hh => by omega)))
        · rw [beq_f h3]
          conv => lhs; whnf
          refine iteO_t (by kernel_rfl) ?_
          conv => lhs; whnf
          refine nextK_of (aop_sliceB (a := i + 1) (b := b.length) rfl rfl rfl rfl rfl rfl (bnds_from (wrap_up hz (by omega)) (by omega))) ?_
          conv => lhs; whnf
          refine iteO_t (by kernel_rfl) ?_
          conv => lhs; whnf
          refine Eq.trans (b := some (Fx.ret, St.mk [((2 : Nat), AV.d (D.int IntKind.u64 (bits BinOp.or IntKind.u64 y ↑(c.toBitVec.toFin.1 % (128 : Nat) * Nat.pow (128 : Nat) i)))), ((3 : Nat), AV.d (D.list (bL (List.drop (i + (1 : Nat)) (List.take (List.length b) b))))), ((4 : Nat), AV.d (D.int IntKind.i64 (0 : Int)))] [])) (by kernel_rfl) ?_
          (rw [r3 (by omega) (by omega) (by omega), List.take_length]; exact congrArg (fun q => some (Fx.ret, (⟨[(2, AV.d (D.int .u64 q)), (3, .d (.list (bL (b.drop (i + 1))))), (4, .d (.int .i64 0))], []⟩ : St))) (or7 hy ha (by omega) (fun hh => by omega)))
      · rw [dec_f h2]
        conv => lhs; whnf
        refine Eq.trans (ihm (i + 1) _ _ _ lf _ (by rw [List.length_take]; omega) (by rw [List.length_take]; omega) (wrap_up hz (by omega)) hp (or7 hy ha (by omega) (fun hh => by omega)) (by omega) (by omega) rfl) ?_
        (rw [r4 (by omega) (by omega)])
/-- What reading a number comes to. -/
def uAV (b : List UInt8) : AV := .tuple [.d (.int .u64 (rdU b).1), .d (.list (bL (rest b (rdU b).2.1 (rdU b).2.2))), .d (.int .i64 (rdU b).2.2)]
theorem rdU_e (b : List UInt8) : ∀ {r : Nat × Nat × Int}, rdU b = r → uAV b = .tuple [.d (.int .u64 r.1), .d (.list (bL (rest b r.2.1 r.2.2))), .d (.int .i64 r.2.2)] := fun h => by subst h; rfl
theorem min10 (b : List UInt8) : (if (if false = true then decide ((10 : Int) > ((bL b).length : Int)) else decide ((10 : Int) < ((bL b).length : Int))) = true then (10 : Int) else ((bL b).length : Int)) = (((b.take 10).length : Nat) : Int) := by
  rw [bL_len, List.length_take]
  by_cases h : (10 : Int) < (b.length : Int)
  · simp [h]; omega
  · simp [h]; omega
theorem readU80 (b : List UInt8) (hb : b.length ≤ maxLen) (k : Nat) (hk : 12 < k) : icall Try.prog cfg k 80 [.d (.list (bL b))] [] = some (.ret (.tuple [.d (.int .u64 (rdU b).1), .d (.list (bL (rest b (rdU b).2.1 (rdU b).2.2))), .d (.int .i64 (rdU b).2.2)]), []) := by
  obtain ⟨k, rfl⟩ : ∃ j, k = j + 1 := ⟨k - 1, by omega⟩
  have hl := fun lp hlp st mz hmz => rd80L k b hb mz hmz (lp := lp) hlp (b.take 10).length 0 0 0 0 k st rfl (Nat.zero_le _) rfl (by decide) rfl (by omega) (by rw [List.length_take]; omega)
  rw [List.drop_zero] at hl
  generalize hr : rdU b = r at *
  obtain ⟨n, kk, e⟩ := r
  have hr' : rdUG 0 0 b = (n, kk, e) := hr
  rw [hr'] at hl
  by_cases h5 : e = 5
  · subst h5
    obtain ⟨rfl, rfl⟩ := rdU_e0 hr (by decide)
    rw [icall_body rfl Try.func80]
    obtain ⟨lp, hlp⟩ : ∃ lp, lp = lpOf Try.prog cfg (icall Try.prog cfg k) Try.f80.ntmps 80 k (([] : Hp).map (·.1)) := ⟨_, rfl⟩
    rw [← hlp]
    conv => lhs; whnf
    refine nextK_of (loop_at hlp (hl lp hlp _ _ (min10 b) rfl)) ?_
    conv => lhs; whnf
    refine Eq.trans (b := some (Res.ret (AV.tuple [AV.d (D.int IntKind.u64 (0 : Int)), AV.d (D.list []), AV.d (D.int IntKind.i64 (5 : Int))]), [])) (by kernel_rfl) ?_
    rfl
  · by_cases h0 : e = 0
    · subst h0
      rw [icall_body rfl Try.func80]
      obtain ⟨lp, hlp⟩ : ∃ lp, lp = lpOf Try.prog cfg (icall Try.prog cfg k) Try.f80.ntmps 80 k (([] : Hp).map (·.1)) := ⟨_, rfl⟩
      rw [← hlp]
      conv => lhs; whnf
      refine nextK_of (loop_at hlp (hl lp hlp _ _ (min10 b) rfl)) ?_
      conv => lhs; whnf
      refine Eq.trans (b := some (Res.ret (AV.tuple [AV.d (D.int IntKind.u64 ↑n), AV.d (D.list (bL (List.drop kk b))), AV.d (D.int IntKind.i64 (0 : Int))]), [])) (by kernel_rfl) ?_
      rfl
    · obtain ⟨rfl, rfl⟩ := rdU_e0 hr h0
      rw [rd80R_2 h5 h0] at hl
      rw [rest_e _ _ h0]
      rw [icall_body rfl Try.func80]
      obtain ⟨lp, hlp⟩ : ∃ lp, lp = lpOf Try.prog cfg (icall Try.prog cfg k) Try.f80.ntmps 80 k (([] : Hp).map (·.1)) := ⟨_, rfl⟩
      rw [← hlp]
      conv => lhs; whnf
      refine nextK_of (loop_at hlp (hl lp hlp _ _ (min10 b) rfl)) ?_
      conv => lhs; whnf
      refine Eq.trans (b := some (Res.ret (AV.tuple [AV.d (D.int IntKind.u64 (0 : Int)), AV.d (D.list []), AV.d (D.int IntKind.i64 e)]), [])) (by kernel_rfl) ?_
      rfl
end Go.Rx11
end
section
open Go Go.Rx Go.Proofs Go.Rx11 Go.RxTree
set_option maxRecDepth 1000000
set_option maxHeartbeats 4000000
set_option linter.unusedVariables false
set_option linter.unusedSimpArgs false
namespace Go.Rx11
theorem rd81L (j : Nat) (b : List UInt8) (hb : b.length ≤ maxLen) {lp : LP} (hlp : lp = lpOf Try.prog cfg (icall Try.prog cfg j) Try.f81.ntmps 81 j (([] : Hp).map (·.1))) :
    ∀ (m i : Nat) (z : Int)  (lf : Nat) (st : St), (b.take 10).length - i = m → i ≤ (b.take 10).length → z = (i : Int) → m < lf → prune [] [0, 5] st = some ⟨[(0, .d (.list (bL b))), (5, .d (.int .i64 z))], []⟩ →
      loopK Try.prog cfg (icall Try.prog cfg j) lp Try.f81.ntmps 81 [] (bodyAt Try.f81 2) lf st (exitP [] (some [0, 5])) = some (.exit 0, ⟨[(0, .d (.list (bL b))), (5, .d (.int .i64 ((i + hiN (10 - i) (b.drop i) : Nat) : Int)))], []⟩) := by
  intro m
  induction m with
  | zero =>
    intro i z  lf st hi hle hz  hlf hp
    obtain ⟨lf, rfl⟩ : ∃ n, lf = n + 1 := ⟨lf - 1, by omega⟩
    refine loop_step hp ?_
    rw [List.length_take] at hi hle
    have hlen := bL_len b
    have q0 : hiN (10 - i) (b.drop i) = 0 := hiN_stop (by omega)
    conv => lhs; whnf
    refine iteK_dec (fun h1 => ?_) (fun h1 => ?_)
    · rw [dec_t h1]
      conv => lhs; whnf
      refine iteK_dec (fun h2 => ?_) (fun h2 => ?_)
      · rw [dec_t h2]
        (exfalso; omega)
      · rw [dec_f h2]
        conv => lhs; whnf
        refine Eq.trans (b := some (Fx.exit (0 : Nat), St.mk [((0 : Nat), AV.d (D.list (bL b))), ((5 : Nat), AV.d (D.int IntKind.i64 z))] [])) (by kernel_rfl) ?_
        (rw [q0, hz]; rfl)
    · rw [dec_f h1]
      conv => lhs; whnf
      refine Eq.trans (b := some (Fx.exit (0 : Nat), St.mk [((0 : Nat), AV.d (D.list (bL b))), ((5 : Nat), AV.d (D.int IntKind.i64 z))] [])) (by kernel_rfl) ?_
      (rw [q0, hz]; rfl)
  | succ m ihm =>
    intro i z  lf st hi hle hz  hlf hp
    obtain ⟨lf, rfl⟩ : ∃ n, lf = n + 1 := ⟨lf - 1, by omega⟩
    refine loop_step hp ?_
    rw [List.length_take] at hi hle
    have hlen := bL_len b
    have hbi : i < b.length := by omega
    have hx : b[i]? = some b[i] := List.getElem?_eq_getElem hbi
    have q1 : 127 < b[i].toNat → i + hiN (10 - i) (b.drop i) = (i + 1) + hiN (10 - (i + 1)) (b.drop (i + 1)) := fun h => by rw [hiN_drop (by omega) hbi h]; omega
    have q0 : ¬ 127 < b[i].toNat → hiN (10 - i) (b.drop i) = 0 := fun h => hiN_stop (.inr (.inr (by rw [List.getD_eq_getElem?_getD, hx]; simpa using h)))
    generalize b[i] = c at hx q1 q0
    have hc := c.toNat_lt
    conv => lhs; whnf
    refine iteK_dec (fun h1 => ?_) (fun h1 => ?_)
    · rw [dec_t h1]
      conv => lhs; whnf
      refine iteK_dec (fun h2 => ?_) (fun h2 => ?_)
      · rw [dec_t h2]
        conv => lhs; whnf
        refine nextK_of (aop_ix rfl rfl rfl rfl (ixL_at' hz (bL_get hx) rfl)) ?_
        conv => lhs; whnf
        refine iteK_dec (fun h3 => ?_) (fun h3 => ?_)
        · rw [dec_t h3]
          conv => lhs; whnf
          refine Eq.trans (ihm (i + 1) _ lf _ (by rw [List.length_take]; omega) (by rw [List.length_take]; omega) (wrap_up hz (by omega)) (by omega) rfl) ?_
          (rw [q1 (by omega)])
        · rw [dec_f h3]
          conv => lhs; whnf
          refine Eq.trans (b := some (Fx.exit (0 : Nat), St.mk [((0 : Nat), AV.d (D.list (bL b))), ((5 : Nat), AV.d (D.int IntKind.i64 z))] [])) (by kernel_rfl) ?_
          (rw [q0 (by omega), hz]; rfl)
      · rw [dec_f h2]
        (exfalso; omega)
    · rw [dec_f h1]
      (exfalso; omega)
theorem dstep {v : Int} {c : UInt8} {d e : Nat} (hv : v = (d : Int)) (he : e = d * 128 + c.toNat % 128) (hl : e < 18446744073709551616) : IntKind.u64.wrap (IntKind.u64.wrap (v * 128) + IntKind.u64.wrap ((c.toNat : Int).tmod 128)) = (e : Int) := by
  subst hv he
  have hc := c.toNat_lt
  rw [Int.tmod_eq_emod_of_nonneg (by omega), Go.Rx.wrap_u64 (n := (d : Int) * 128) (by omega) (by omega), Go.Rx.wrap_u64 (n := (c.toNat : Int) % 128) (by omega) (by omega), Go.Rx.wrap_u64 (by omega) (by omega)]
  omega
theorem rd81M (j : Nat) (b : List UInt8) (hb : b.length ≤ maxLen) (n : Nat) (hn : n < b.length) (hw : dv (b.take (n + 1)) < 18446744073709551616) {lp : LP} (hlp : lp = lpOf Try.prog cfg (icall Try.prog cfg j) Try.f81.ntmps 81 j (([] : Hp).map (·.1))) :
    ∀ (m : Nat) (w v : Int) (lf : Nat) (st : St), w = (m : Int) - 1 → m ≤ n + 1 → v = ((dv ((b.take (n + 1)).drop m) : Nat) : Int) → m < lf → prune [] [0, 5, 6, 7] st = some ⟨[(0, .d (.list (bL b))), (5, .d (.int .i64 n)), (6, .d (.int .u64 v)), (7, .d (.int .i64 w))], []⟩ →
      loopK Try.prog cfg (icall Try.prog cfg j) lp Try.f81.ntmps 81 [] (bodyAt Try.f81 12) lf st (exitP [] (some [5, 6])) = some (.exit 2, ⟨[(5, .d (.int .i64 n)), (6, .d (.int .u64 ((dv (b.take (n + 1)) : Nat) : Int)))], []⟩) := by
  intro m
  induction m with
  | zero =>
    intro w v lf st hwz hle hv hlf hp
    obtain ⟨lf, rfl⟩ : ∃ n, lf = n + 1 := ⟨lf - 1, by omega⟩
    refine loop_step hp ?_
    have hend : ¬ w ≥ 0 := by omega
    rw [List.drop_zero] at hv
    conv => lhs; whnf
    refine iteK_dec_f hend ?_
    conv => lhs; whnf
    refine Eq.trans (b := some (Fx.exit (2 : Nat), St.mk [((5 : Nat), AV.d (D.int IntKind.i64 ↑n)), ((6 : Nat), AV.d (D.int IntKind.u64 v))] [])) (by kernel_rfl) ?_
    (rw [hv])
  | succ m ihm =>
    intro w v lf st hwz hle hv hlf hp
    obtain ⟨lf, rfl⟩ : ∃ n, lf = n + 1 := ⟨lf - 1, by omega⟩
    refine loop_step hp ?_
    have hend : w ≥ 0 := by omega
    have hx : b[m]? = some (b[m]'(by omega)) := List.getElem?_eq_getElem (by omega)
    have hs := dv_step (b := b) (n := n) (i := m) (by omega) hn
    have hm := dv_drop_mono (b := b.take (n + 1)) m
    have hmx : (maxLen : Int) ≤ 9223372036854775807 := by decide
    generalize (b[m]'(by omega)) = c at hx hs
    conv => lhs; whnf
    refine iteK_dec_t hend ?_
    conv => lhs; whnf
    refine nextK_of (aop_ix rfl rfl rfl rfl (ixL_at' (n := m) (by omega) (bL_get hx) rfl)) ?_
    conv => lhs; whnf
    refine Eq.trans (ihm _ _ lf _ (by rw [Go.Rx.wrap_i64 (by omega) (by omega)]; omega) (by omega) (dstep hv hs (by omega)) (by omega) rfl) ?_
    rfl
theorem readU81 (b : List UInt8) (hb : b.length ≤ maxLen) (k : Nat) (hk : 13 < k) : icall Try.prog cfg k 81 [.d (.list (bL b))] [] = some (.ret (.tuple [.d (.int .u64 (rdU b).1), .d (.int .i64 (rdU b).2.1), .d (.int .i64 (rdU b).2.2)]), []) := by
  obtain ⟨k, rfl⟩ : ∃ j, k = j + 1 := ⟨k - 1, by omega⟩
  have hl := fun lp hlp st => rd81L k b hb (lp := lp) hlp (b.take 10).length 0 0 k st rfl (Nat.zero_le _) rfl (by rw [List.length_take]; omega)
  rw [List.drop_zero] at hl
  have hlen := bL_len b
  obtain ⟨g1, g2⟩ := hiN_le 10 b
  have h10 := hiN_get 10 b 9
  have hr := rdU_hi b
  have hn0 : 0 + hiN (10 - 0) b = hiN 10 b := Nat.zero_add _
  rw [hn0] at hl
  have hw := fun h1 h2 => dv_word (b := b) (n := hiN 10 b) h1 h2
  generalize hiN 10 b = n at *
  have hxg : ∀ i, i < b.length → b[i]? = some (b.getD i 0) := fun i h => by rw [List.getD_eq_getElem?_getD, List.getElem?_eq_getElem h]; rfl
  have hx9' := hxg 9
  have hxn' := hxg n
  clear hxg
  have hmx : (maxLen : Int) ≤ 9223372036854775807 := by decide
  generalize b.getD 9 0 = c9 at *
  generalize b.getD n 0 = cn at *
  rw [icall_body rfl Try.func81]
  obtain ⟨lp, hlp⟩ : ∃ lp, lp = lpOf Try.prog cfg (icall Try.prog cfg k) Try.f81.ntmps 81 k (([] : Hp).map (·.1)) := ⟨_, rfl⟩
  rw [← hlp]
  conv => lhs; whnf
  refine nextK_of (loop_at hlp (hl lp hlp _ rfl)) ?_
  conv => lhs; whnf
  refine iteK_dec (fun h1 => ?_) (fun h1 => ?_)
  · rw [dec_t h1]
    conv => lhs; whnf
    refine iteK_dec (fun h2 => ?_) (fun h2 => ?_)
    · rw [dec_t h2]
      conv => lhs; whnf
      refine Eq.trans (b := some (Res.ret (AV.tuple [AV.d (D.int IntKind.u64 (0 : Int)), AV.d (D.int IntKind.i64 (0 : Int)), AV.d (D.int IntKind.i64 (5 : Int))]), [])) (by kernel_rfl) ?_
      (rw [hr, if_pos (by omega)]; rfl)
    · rw [dec_f h2]
      conv => lhs; whnf
      refine iteK_dec (fun h3 => ?_) (fun h3 => ?_)
      · rw [dec_t h3]
        conv => lhs; whnf
        refine nextK_of (aop_ix rfl rfl rfl rfl (ixL_at' (n := 9) rfl (bL_get (hx9' (by omega))) rfl)) ?_
        conv => lhs; whnf
        refine iteK_dec (fun h4 => ?_) (fun h4 => ?_)
        · rw [dec_t h4]
          conv => lhs; whnf
          refine Eq.trans (b := some (Res.ret (AV.tuple [AV.d (D.int IntKind.u64 (0 : Int)), AV.d (D.int IntKind.i64 (0 : Int)), AV.d (D.int IntKind.i64 (2 : Int))]), [])) (by kernel_rfl) ?_
          (rw [hr, if_neg (by omega), if_pos (by omega)]; rfl)
        · rw [dec_f h4]
          conv => lhs; whnf
          refine iteK_dec (fun h5 => ?_) (fun h5 => ?_)
          · rw [dec_t h5]
            conv => lhs; whnf
            refine nextK_of (aop_ix rfl rfl rfl rfl (ixL_at' (n := n) rfl (bL_get (hxn' (by omega))) rfl)) ?_
            conv => lhs; whnf
            refine iteK_beq (fun h6 => ?_) (fun h6 => ?_)
            · rw [beq_t h6]
              conv => lhs; whnf
              refine Eq.trans (b := some (Res.ret (AV.tuple [AV.d (D.int IntKind.u64 (0 : Int)), AV.d (D.int IntKind.i64 (0 : Int)), AV.d (D.int IntKind.i64 (2 : Int))]), [])) (by kernel_rfl) ?_
              (rw [hr, if_neg (by omega), if_neg (by omega), if_pos (by omega)]; rfl)
            · rw [beq_f h6]
              conv => lhs; whnf
              refine nextK_of (loop_at hlp (rd81M k b hb n (by omega) (hw (by omega) (by omega) (by omega)) hlp (n + 1) _ _ k _ (by omega) (by omega) (by rw [List.drop_eq_nil_of_le (by rw [List.length_take]; omega)]; rfl) (by omega) rfl)) ?_
              conv => lhs; whnf
              refine Eq.trans (b := some (Res.ret (AV.tuple [AV.d (D.int IntKind.u64 ↑(dv (List.take (n + (1 : Nat)) b))), AV.d (D.int IntKind.i64 (IntKind.wrap IntKind.i64 (↑n + (1 : Int)))), AV.d (D.int IntKind.i64 (0 : Int))]), [])) (by kernel_rfl) ?_
              (rw [hr, if_neg (by omega), if_neg (by omega), if_neg (by omega), wrap_up (z := (n : Int)) rfl (by omega)])
          · rw [dec_f h5]
            (exfalso; omega)
      · rw [dec_f h3]
        conv => lhs; whnf
        refine iteK_dec (fun h4 => ?_) (fun h4 => ?_)
        · rw [dec_t h4]
          conv => lhs; whnf
          refine nextK_of (aop_ix rfl rfl rfl rfl (ixL_at' (n := n) rfl (bL_get (hxn' (by omega))) rfl)) ?_
          conv => lhs; whnf
          refine iteK_beq (fun h5 => ?_) (fun h5 => ?_)
          · rw [beq_t h5]
            conv => lhs; whnf
            refine Eq.trans (b := some (Res.ret (AV.tuple [AV.d (D.int IntKind.u64 (0 : Int)), AV.d (D.int IntKind.i64 (0 : Int)), AV.d (D.int IntKind.i64 (2 : Int))]), [])) (by kernel_rfl) ?_
            (rw [hr, if_neg (by omega), if_neg (by omega), if_pos (by omega)]; rfl)
          · rw [beq_f h5]
            conv => lhs; whnf
            refine nextK_of (loop_at hlp (rd81M k b hb n (by omega) (hw (by omega) (by omega) (by omega)) hlp (n + 1) _ _ k _ (by omega) (by omega) (by rw [List.drop_eq_nil_of_le (by rw [List.length_take]; omega)]; rfl) (by omega) rfl)) ?_
            conv => lhs; whnf
            refine Eq.trans (b := some (Res.ret (AV.tuple [AV.d (D.int IntKind.u64 ↑(dv (List.take (n + (1 : Nat)) b))), AV.d (D.int IntKind.i64 (IntKind.wrap IntKind.i64 (↑n + (1 : Int)))), AV.d (D.int IntKind.i64 (0 : Int))]), [])) (by kernel_rfl) ?_
            (rw [hr, if_neg (by omega), if_neg (by omega), if_neg (by omega), wrap_up (z := (n : Int)) rfl (by omega)])
        · rw [dec_f h4]
          conv => lhs; whnf
          refine nextK_of (loop_at hlp (rd81M k b hb n (by omega) (hw (by omega) (by omega) (by omega)) hlp (n + 1) _ _ k _ (by omega) (by omega) (by rw [List.drop_eq_nil_of_le (by rw [List.length_take]; omega)]; rfl) (by omega) rfl)) ?_
          conv => lhs; whnf
          refine Eq.trans (b := some (Res.ret (AV.tuple [AV.d (D.int IntKind.u64 ↑(dv (List.take (n + (1 : Nat)) b))), AV.d (D.int IntKind.i64 (IntKind.wrap IntKind.i64 (↑n + (1 : Int)))), AV.d (D.int IntKind.i64 (0 : Int))]), [])) (by kernel_rfl) ?_
          (rw [hr, if_neg (by omega), if_neg (by omega), if_neg (by omega), wrap_up (z := (n : Int)) rfl (by omega)])
  · rw [dec_f h1]
    conv => lhs; whnf
    refine iteK_dec (fun h2 => ?_) (fun h2 => ?_)
    · rw [dec_t h2]
      conv => lhs; whnf
      refine nextK_of (aop_ix rfl rfl rfl rfl (ixL_at' (n := 9) rfl (bL_get (hx9' (by omega))) rfl)) ?_
      conv => lhs; whnf
      refine iteK_dec (fun h3 => ?_) (fun h3 => ?_)
      · rw [dec_t h3]
        conv => lhs; whnf
        refine Eq.trans (b := some (Res.ret (AV.tuple [AV.d (D.int IntKind.u64 (0 : Int)), AV.d (D.int IntKind.i64 (0 : Int)), AV.d (D.int IntKind.i64 (2 : Int))]), [])) (by kernel_rfl) ?_
        (rw [hr, if_neg (by omega), if_pos (by omega)]; rfl)
      · rw [dec_f h3]
        (exfalso; omega)
    · rw [dec_f h2]
      (exfalso; omega)
end Go.Rx11
end
section
open Go Go.Rx Go.Proofs Go.Rx11 Go.RxTree
set_option maxRecDepth 1000000
set_option maxHeartbeats 4000000
set_option linter.unusedVariables false
set_option linter.unusedSimpArgs false
namespace Go.Rx11
theorem zag_x {n : Nat} (h : n < 18446744073709551616) : bits .xor .i64 (IntKind.i64.wrap ((n : Int).fdiv (2 ^ (min (1 : Int).toNat IntKind.u64.bits)))) (IntKind.i64.wrap (0 - IntKind.i64.wrap (bits .and .u64 (n : Int) 1))) = zag n := by
  have e1 : (2 : Int) ^ (min (1 : Int).toNat IntKind.u64.bits) = 2 := by decide
  rw [e1, and1 (by omega) (by omega), Int.fdiv_eq_ediv_of_nonneg _ (by omega), Go.Rx.wrap_i64 (n := (n : Int) / 2) (by omega) (by omega), Go.Rx.wrap_i64 (n := (n : Int) % 2) (by omega) (by omega), Go.Rx.wrap_i64 (by omega) (by omega)]
  unfold zag
  by_cases h2 : n % 2 = 0
  · rw [if_pos h2, show 0 - (n : Int) % 2 = 0 by omega, xor_0 (by omega) (by omega)]; omega
  · rw [if_neg h2, show 0 - (n : Int) % 2 = -1 by omega, xor_m1 (by omega) (by omega)]; omega
theorem readI72 (b : List UInt8) (hb : b.length ≤ maxLen) (k : Nat) (hk : 13 < k) : icall Try.prog cfg k 72 [.d (.list (bL b))] [] = some (.ret (.tuple [.d (.int .i64 (rdI b).1), .d (.list (bL (rest b (rdI b).2.1 (rdI b).2.2))), .d (.int .i64 (rdI b).2.2)]), []) := by
  obtain ⟨k, rfl⟩ : ∃ j, k = j + 1 := ⟨k - 1, by omega⟩
  have hc := readU80 b hb k (by omega)
  have hw := (rdU_b b).2.1
  unfold rdI
  generalize rdU b = r at *
  obtain ⟨n, kk, e⟩ := r
  have hz := zag_x hw
  rw [icall_body rfl Try.func72]
  obtain ⟨lp, hlp⟩ : ∃ lp, lp = lpOf Try.prog cfg (icall Try.prog cfg k) Try.f72.ntmps 72 k (([] : Hp).map (·.1)) := ⟨_, rfl⟩
  rw [← hlp]
  conv => lhs; whnf
  refine nextK_of hc ?_
  conv => lhs; whnf
  refine Eq.trans (b := some (Res.ret (AV.tuple [AV.d (D.int IntKind.i64 (bits BinOp.xor IntKind.i64 (IntKind.wrap IntKind.i64 (Int.fdiv (↑n) ((2 : Int) ^ min (Int.toNat (1 : Int)) (IntKind.bits IntKind.u64)))) (IntKind.wrap IntKind.i64 ((0 : Int) - IntKind.wrap IntKind.i64 (bits BinOp.and IntKind.u64 ↑n (1 : Int)))))), AV.d (D.list (bL (rest b kk e))), AV.d (D.int IntKind.i64 e)]), [])) (by kernel_rfl) ?_
  exact congrArg (fun q => some (Res.ret (.tuple [.d (.int .i64 q), .d (.list (bL (rest b kk e))), .d (.int .i64 e)]), ([] : Hp))) hz
theorem zag_e {n : Nat} (h : n < 18446744073709551616) (h2 : (n : Int).tmod 2 = 0) : IntKind.i64.wrap (IntKind.u64.wrap ((n : Int).tdiv 2)) = zag n := by
  rw [Int.tmod_eq_emod_of_nonneg (by omega)] at h2
  rw [Int.tdiv_eq_ediv_of_nonneg (by omega), Go.Rx.wrap_u64 (by omega) (by omega), Go.Rx.wrap_i64 (by omega) (by omega)]
  unfold zag; rw [if_pos (by omega)]; omega
theorem zag_o {n : Nat} (h : n < 18446744073709551616) (h2 : (n : Int).tmod 2 ≠ 0) : IntKind.i64.wrap (IntKind.i64.wrap (0 - IntKind.i64.wrap (IntKind.u64.wrap ((n : Int).tdiv 2))) - 1) = zag n := by
  rw [Int.tmod_eq_emod_of_nonneg (by omega)] at h2
  rw [Int.tdiv_eq_ediv_of_nonneg (by omega), Go.Rx.wrap_u64 (by omega) (by omega), Go.Rx.wrap_i64 (n := (n : Int) / 2) (by omega) (by omega), Go.Rx.wrap_i64 (n := 0 - (n : Int) / 2) (by omega) (by omega), Go.Rx.wrap_i64 (by omega) (by omega)]
  unfold zag; rw [if_neg (by omega)]; omega
theorem readI75 (b : List UInt8) (hb : b.length ≤ maxLen) (k : Nat) (hk : 14 < k) : icall Try.prog cfg k 75 [.d (.list (bL b))] [] = some (.ret (.tuple [.d (.int .i64 (rdI b).1), .d (.int .i64 (rdI b).2.1), .d (.int .i64 (rdI b).2.2)]), []) := by
  obtain ⟨k, rfl⟩ : ∃ j, k = j + 1 := ⟨k - 1, by omega⟩
  have hc := readU81 b hb k (by omega)
  have hw := (rdU_b b).2.1
  have he := (rdU_b b).2.2
  unfold rdI
  generalize rdU b = r at *
  obtain ⟨n, kk, e⟩ := r
  dsimp only at hc hw he ⊢
  by_cases h0 : e = 0
  · subst h0
    rw [icall_body rfl Try.func75]
    obtain ⟨lp, hlp⟩ : ∃ lp, lp = lpOf Try.prog cfg (icall Try.prog cfg k) Try.f75.ntmps 75 k (([] : Hp).map (·.1)) := ⟨_, rfl⟩
    rw [← hlp]
    conv => lhs; whnf
    refine nextK_of hc ?_
    conv => lhs; whnf
    refine iteK_beq (fun h1 => ?_) (fun h1 => ?_)
    · rw [beq_t h1]
      conv => lhs; whnf
      refine Eq.trans (b := some (Res.ret (AV.tuple [AV.d (D.int IntKind.i64 (IntKind.wrap IntKind.i64 (IntKind.wrap IntKind.u64 (Int.tdiv ↑n (2 : Int))))), AV.d (D.int IntKind.i64 ↑kk), AV.d (D.int IntKind.i64 (0 : Int))]), [])) (by kernel_rfl) ?_
      (exact congrArg (fun q => some (Res.ret (.tuple [.d (.int .i64 q), .d (.int .i64 kk), .d (.int .i64 0)]), ([] : Hp))) (zag_e hw (by assumption)))
    · rw [beq_f h1]
      conv => lhs; whnf
      refine Eq.trans (b := some (Res.ret (AV.tuple [AV.d (D.int IntKind.i64 (IntKind.wrap IntKind.i64 (IntKind.wrap IntKind.i64 ((0 : Int) - IntKind.wrap IntKind.i64 (IntKind.wrap IntKind.u64 (Int.tdiv ↑n (2 : Int)))) - (1 : Int)))), AV.d (D.int IntKind.i64 ↑kk), AV.d (D.int IntKind.i64 (0 : Int))]), [])) (by kernel_rfl) ?_
      (exact congrArg (fun q => some (Res.ret (.tuple [.d (.int .i64 q), .d (.int .i64 kk), .d (.int .i64 0)]), ([] : Hp))) (zag_o hw (by assumption)))
  · obtain ⟨rfl, rfl⟩ := he h0
    rw [icall_body rfl Try.func75]
    obtain ⟨lp, hlp⟩ : ∃ lp, lp = lpOf Try.prog cfg (icall Try.prog cfg k) Try.f75.ntmps 75 k (([] : Hp).map (·.1)) := ⟨_, rfl⟩
    rw [← hlp]
    conv => lhs; whnf
    refine nextK_of hc ?_
    conv => lhs; whnf
    refine iteK_bne_t h0 ?_
    conv => lhs; whnf
    refine Eq.trans (b := some (Res.ret (AV.tuple [AV.d (D.int IntKind.i64 (0 : Int)), AV.d (D.int IntKind.i64 (0 : Int)), AV.d (D.int IntKind.i64 e)]), [])) (by kernel_rfl) ?_
    rfl
/-- What reading a text comes to, told by the number ahead of it. -/
theorem rdB_1 {b : List UInt8} {n kk : Nat} {e : Int} (h : rdU b = (n, kk, e)) (he : e ≠ 0) : rdB b = ([], 0, e) := by
  unfold rdB; rw [h]; rw [if_pos he]
theorem rdB_2 {b : List UInt8} {n kk : Nat} (h : rdU b = (n, kk, 0)) (he : b.length - kk < n) : rdB b = ([], 0, 5) := by
  unfold rdB; rw [h, if_neg (by simp), if_pos he]
theorem rdB_3 {b : List UInt8} {n kk : Nat} (h : rdU b = (n, kk, 0)) (he : ¬ b.length - kk < n) : rdB b = ((b.drop kk).take n, kk + n, 0) := by
  unfold rdB; rw [h, if_neg (by simp), if_neg he]
theorem readB73 (b : List UInt8) (hb : b.length ≤ maxLen) (k : Nat) (hk : 14 < k) : icall Try.prog cfg k 73 [.d (.list (bL b))] [] = some (.ret (.tuple [.d (.list (bL (rdB b).1)), .d (.list (bL (rest b (rdB b).2.1 (rdB b).2.2))), .d (.int .i64 (rdB b).2.2)]), []) := by
  obtain ⟨k, rfl⟩ : ∃ j, k = j + 1 := ⟨k - 1, by omega⟩
  have hc := readU80 b hb k (by omega)
  obtain ⟨hw, hw2, he⟩ := rdU_b b
  generalize hr : rdU b = r at *
  obtain ⟨n, kk, e⟩ := r
  dsimp only at hc hw hw2 he ⊢
  have hmx : (maxLen : Int) ≤ 9223372036854775807 := by decide
  by_cases h0 : e = 0
  · subst h0
    obtain ⟨u1, u2, u3⟩ := hw rfl
    rw [rest_0] at hc
    have hlen : (bL (b.drop kk)).length = b.length - kk := by rw [bL_len, List.length_drop]
    have hld : (b.drop kk).length = b.length - kk := List.length_drop ..
    have hwl : IntKind.u64.wrap ((bL (b.drop kk)).length : Int) = ((b.length - kk : Nat) : Int) := by rw [hlen]; exact Go.Rx.wrap_u64 (by omega) (by omega)
    by_cases h1 : b.length - kk < n
    · rw [rdB_2 hr h1]
      rw [icall_body rfl Try.func73]
      obtain ⟨lp, hlp⟩ : ∃ lp, lp = lpOf Try.prog cfg (icall Try.prog cfg k) Try.f73.ntmps 73 k (([] : Hp).map (·.1)) := ⟨_, rfl⟩
      rw [← hlp]
      conv => lhs; whnf
      refine nextK_of hc ?_
      conv => lhs; whnf
      refine iteK_dec (fun h1 => ?_) (fun h1 => ?_)
      · rw [dec_t h1]
        conv => lhs; whnf
        refine Eq.trans (b := some (Res.ret (AV.tuple [AV.d (D.list []), AV.d (D.list []), AV.d (D.int IntKind.i64 (5 : Int))]), [])) (by kernel_rfl) ?_
        rfl
      · rw [dec_f h1]
        (exfalso; omega)
    · rw [rdB_3 hr h1]
      have e1 : rest b (kk + n) 0 = (b.drop kk).drop n := by rw [rest_0, List.drop_drop]
      rw [e1]
      rw [icall_body rfl Try.func73]
      obtain ⟨lp, hlp⟩ : ∃ lp, lp = lpOf Try.prog cfg (icall Try.prog cfg k) Try.f73.ntmps 73 k (([] : Hp).map (·.1)) := ⟨_, rfl⟩
      rw [← hlp]
      conv => lhs; whnf
      refine nextK_of hc ?_
      conv => lhs; whnf
      refine iteK_dec (fun h1 => ?_) (fun h1 => ?_)
      · rw [dec_t h1]
        (exfalso; omega)
      · rw [dec_f h1]
        conv => lhs; whnf
        refine iteO_t (by kernel_rfl) ?_
        conv => lhs; whnf
        refine nextK_of (aop_sliceB (a := 0) (b := n) rfl rfl rfl rfl rfl rfl (bnds_cap rfl rfl (by omega))) ?_
        conv => lhs; whnf
        refine nextK_of (aop_sliceB (a := n) (b := b.length - kk) rfl rfl rfl rfl rfl rfl (by rw [hld]; exact bnds_from rfl (by omega))) ?_
        conv => lhs; whnf
        refine iteO_t (by kernel_rfl) ?_
        conv => lhs; whnf
        refine Eq.trans (b := some (Res.ret (AV.tuple [AV.d (D.list (bL (List.take n (List.drop kk b)))), AV.d (D.list (bL (List.drop n (List.take (List.length b - kk) (List.drop kk b))))), AV.d (D.int IntKind.i64 (0 : Int))]), [])) (by kernel_rfl) ?_
        (rw [List.take_of_length_le (i := b.length - kk) (by omega)])
  · rw [rdB_1 hr h0]
    dsimp only
    rw [rest_e _ _ h0]
    rw [rest_e _ _ h0] at hc
    rw [icall_body rfl Try.func73]
    obtain ⟨lp, hlp⟩ : ∃ lp, lp = lpOf Try.prog cfg (icall Try.prog cfg k) Try.f73.ntmps 73 k (([] : Hp).map (·.1)) := ⟨_, rfl⟩
    rw [← hlp]
    conv => lhs; whnf
    refine nextK_of hc ?_
    conv => lhs; whnf
    refine iteK_bne_t h0 ?_
    conv => lhs; whnf
    refine Eq.trans (b := some (Res.ret (AV.tuple [AV.d (D.list []), AV.d (D.list []), AV.d (D.int IntKind.i64 e)]), [])) (by kernel_rfl) ?_
    rfl
theorem readB76 (b : List UInt8) (hb : b.length ≤ maxLen) (k : Nat) (hk : 14 < k) : icall Try.prog cfg k 76 [.d (.list (bL b))] [] = some (.ret (.tuple [.d (.list (bL (rdB b).1)), .d (.int .i64 (rdB b).2.1), .d (.int .i64 (rdB b).2.2)]), []) := by
  obtain ⟨k, rfl⟩ : ∃ j, k = j + 1 := ⟨k - 1, by omega⟩
  have hc := readU81 b hb k (by omega)
  obtain ⟨hw, hw2, he⟩ := rdU_b b
  generalize hr : rdU b = r at *
  obtain ⟨n, kk, e⟩ := r
  dsimp only at hc hw hw2 he ⊢
  have hmx : (maxLen : Int) ≤ 9223372036854775807 := by decide
  by_cases h0 : e = 0
  · subst h0
    obtain ⟨u1, u2, u3⟩ := hw rfl
    have hlen : (bL b).length = b.length := bL_len b
    have hwl : IntKind.u64.wrap (IntKind.i64.wrap (((bL b).length : Int) - (kk : Int))) = ((b.length - kk : Nat) : Int) := by
      rw [hlen, Go.Rx.wrap_i64 (by omega) (by omega), Go.Rx.wrap_u64 (by omega) (by omega)]; omega
    by_cases h1 : b.length - kk < n
    · rw [rdB_2 hr h1]
      rw [icall_body rfl Try.func76]
      obtain ⟨lp, hlp⟩ : ∃ lp, lp = lpOf Try.prog cfg (icall Try.prog cfg k) Try.f76.ntmps 76 k (([] : Hp).map (·.1)) := ⟨_, rfl⟩
      rw [← hlp]
      conv => lhs; whnf
      refine nextK_of hc ?_
      conv => lhs; whnf
      refine iteK_dec (fun h1 => ?_) (fun h1 => ?_)
      · rw [dec_t h1]
        conv => lhs; whnf
        refine Eq.trans (b := some (Res.ret (AV.tuple [AV.d (D.list []), AV.d (D.int IntKind.i64 (0 : Int)), AV.d (D.int IntKind.i64 (5 : Int))]), [])) (by kernel_rfl) ?_
        rfl
      · rw [dec_f h1]
        (exfalso; omega)
    · rw [rdB_3 hr h1]
      have hwn : IntKind.i64.wrap ((kk : Int) + IntKind.i64.wrap (n : Int)) = ((kk + n : Nat) : Int) := by
        rw [Go.Rx.wrap_i64 (n := (n : Int)) (by omega) (by omega), Go.Rx.wrap_i64 (by omega) (by omega)]; omega
      rw [icall_body rfl Try.func76]
      obtain ⟨lp, hlp⟩ : ∃ lp, lp = lpOf Try.prog cfg (icall Try.prog cfg k) Try.f76.ntmps 76 k (([] : Hp).map (·.1)) := ⟨_, rfl⟩
      rw [← hlp]
      conv => lhs; whnf
      refine nextK_of hc ?_
      conv => lhs; whnf
      refine iteK_dec (fun h1 => ?_) (fun h1 => ?_)
      · rw [dec_t h1]
        (exfalso; omega)
      · rw [dec_f h1]
        conv => lhs; whnf
        refine nextK_of (aop_sliceB (a := kk) (b := kk + n) rfl rfl rfl rfl rfl rfl (bnds_in rfl hwn (by omega) (by omega))) ?_
        conv => lhs; whnf
        refine Eq.trans (b := some (Res.ret (AV.tuple [AV.d (D.list (bL (List.drop kk (List.take (kk + n) b)))), AV.d (D.int IntKind.i64 (IntKind.wrap IntKind.i64 (↑kk + IntKind.wrap IntKind.i64 ↑n))), AV.d (D.int IntKind.i64 (0 : Int))]), [])) (by kernel_rfl) ?_
        (rw [hwn, List.drop_take, show kk + n - kk = n by omega])
  · rw [rdB_1 hr h0]
    rw [icall_body rfl Try.func76]
    obtain ⟨lp, hlp⟩ : ∃ lp, lp = lpOf Try.prog cfg (icall Try.prog cfg k) Try.f76.ntmps 76 k (([] : Hp).map (·.1)) := ⟨_, rfl⟩
    rw [← hlp]
    conv => lhs; whnf
    refine nextK_of hc ?_
    conv => lhs; whnf
    refine iteK_bne_t h0 ?_
    conv => lhs; whnf
    refine Eq.trans (b := some (Res.ret (AV.tuple [AV.d (D.list []), AV.d (D.int IntKind.i64 (0 : Int)), AV.d (D.int IntKind.i64 e)]), [])) (by kernel_rfl) ?_
    rfl
end Go.Rx11
end
