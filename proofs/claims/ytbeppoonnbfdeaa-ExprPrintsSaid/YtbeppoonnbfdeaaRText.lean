/- A part of the proof of the law: what functions of the program come to, walked by Rx, or plain facts on it. -/
import Derived.Test.YtbeppoonnbfdeaaRCheck
import Derived.Test.YtbeppoonnbfdeaaRSpecK
open Go Go.Rx Go.Proofs Go.Rx07 Go.RxTree
set_option maxRecDepth 1000000
set_option maxHeartbeats 4000000
set_option linter.unusedVariables false
set_option linter.unusedSimpArgs false
namespace Go.Rx07
theorem aop_rem {P : Program} {dst : Nat} {ρ : Operand → AV} {H : Hp} {t u : TypeId} {x y : Operand} {k : IntKind} {a b : Int} (hx : ρ x = .d (.int k a)) (hy : ρ y = .d (.int k b)) (hb : b ≠ 0) :
    aop P dst ρ H (.binOp .rem t x y u) = some (.d (.int k (a.tmod b)), H) := by
  simp only [aop, aBin, hx, hy, bInt, if_neg hb, if_true, Option.map_some]
  rfl
theorem enc_dig {n : Nat} (h : n < 10) : (Utf8.encode (IntKind.i32.wrap (IntKind.i64.wrap (48 + (n : Int))))).data.1 = [UInt8.ofNat (48 + n)] := by
  have : n = 0 ∨ n = 1 ∨ n = 2 ∨ n = 3 ∨ n = 4 ∨ n = 5 ∨ n = 6 ∨ n = 7 ∨ n = 8 ∨ n = 9 := by omega
  rcases this with rfl | rfl | rfl | rfl | rfl | rfl | rfl | rfl | rfl | rfl <;> decide
theorem digits42 : ∀ (m n : Nat), n < 10 ^ (m + 1) → n ≤ 9223372036854775807 → m ≤ 30 → ∀ k, m + 1 < k → icall Try.prog cfg k 42 [.d (.int .i64 (n : Int))] [] = some (.ret (.d (.str (digs n))), []) := by
  intro m
  induction m with
  | zero =>
    intro n hn hw hm k hk
    have h10 : n < 10 := by simpa using hn
    have hd := enc_dig h10
    rw [digs_s h10]
    obtain ⟨k, rfl⟩ : ∃ j, k = j + 1 := ⟨k - 1, by omega⟩
    rw [icall_body rfl Try.func42]
    obtain ⟨lp, hlp⟩ : ∃ lp, lp = lpOf Try.prog cfg (icall Try.prog cfg k) Try.f42.ntmps 42 k (([] : Hp).map (·.1)) := ⟨_, rfl⟩
    rw [← hlp]
    conv => lhs; whnf
    refine iteK_dec (fun h1 => ?_) (fun h1 => ?_)
    · rw [dec_t h1]
      conv => lhs; whnf
      refine Eq.trans (b := some (Res.ret (AV.d (D.str (Utf8.encode (IntKind.wrap IntKind.i32 (IntKind.wrap IntKind.i64 ((48 : Int) + ↑n)))).data.1)), [])) (by kernel_rfl) ?_
      exact congrArg (fun b => some (Res.ret (AV.d (D.str b)), ([] : Hp))) hd
    · rw [dec_f h1]
      (exfalso; omega)
  | succ m ih =>
    intro n hn hw hm k hk
    obtain ⟨k, rfl⟩ : ∃ j, k = j + 1 := ⟨k - 1, by omega⟩
    by_cases h10 : n < 10
    · have hd := enc_dig h10
      rw [digs_s h10]
      rw [icall_body rfl Try.func42]
      obtain ⟨lp, hlp⟩ : ∃ lp, lp = lpOf Try.prog cfg (icall Try.prog cfg k) Try.f42.ntmps 42 k (([] : Hp).map (·.1)) := ⟨_, rfl⟩
      rw [← hlp]
      conv => lhs; whnf
      refine iteK_dec (fun h1 => ?_) (fun h1 => ?_)
      · rw [dec_t h1]
        conv => lhs; whnf
        refine Eq.trans (b := some (Res.ret (AV.d (D.str (Utf8.encode (IntKind.wrap IntKind.i32 (IntKind.wrap IntKind.i64 ((48 : Int) + ↑n)))).data.1)), [])) (by kernel_rfl) ?_
        exact congrArg (fun b => some (Res.ret (AV.d (D.str b)), ([] : Hp))) hd
      · rw [dec_f h1]
        (exfalso; omega)
    · rw [digs_l h10]
      have hd := enc_dig (n := n % 10) (by omega)
      have hq : IntKind.i64.wrap ((n : Int).tdiv 10) = ((n / 10 : Nat) : Int) := by
        rw [Int.tdiv_eq_ediv_of_nonneg (by omega), Go.Rx.wrap_i64 (by omega) (by omega)]; omega
      have hr : (n : Int).tmod 10 = ((n % 10 : Nat) : Int) := by
        rw [Int.tmod_eq_emod_of_nonneg (by omega)]; omega
      have hc := ih (n / 10) (by rw [Nat.pow_succ] at hn; omega) (by omega) (by omega) k (by omega)
      have hlen := digs_len m (n / 10) (by rw [Nat.pow_succ] at hn; omega)
      have hl : (digs (n / 10)).length + (Utf8.encode (IntKind.i32.wrap (IntKind.i64.wrap (48 + (n : Int).tmod 10)))).data.1.length ≤ lim := by
        rw [hr, hd]; unfold lim; simp; omega
      rw [← hq] at hc
      rw [icall_body rfl Try.func42]
      obtain ⟨lp, hlp⟩ : ∃ lp, lp = lpOf Try.prog cfg (icall Try.prog cfg k) Try.f42.ntmps 42 k (([] : Hp).map (·.1)) := ⟨_, rfl⟩
      rw [← hlp]
      conv => lhs; whnf
      refine iteK_dec (fun h1 => ?_) (fun h1 => ?_)
      · rw [dec_t h1]
        (exfalso; omega)
      · rw [dec_f h1]
        conv => lhs; whnf
        refine nextK_of hc ?_
        conv => lhs; whnf
        refine nextK_of (aop_add rfl rfl hl) ?_
        conv => lhs; whnf
        refine Eq.trans (b := some (Res.ret (AV.d (D.str (List.append (digs (n / (10 : Nat))) (Utf8.encode (IntKind.wrap IntKind.i32 (IntKind.wrap IntKind.i64 ((48 : Int) + Int.tmod ↑n (10 : Int))))).data.1))), [])) (by kernel_rfl) ?_
        (rw [hr]; exact congrArg (fun b => some (Res.ret (AV.d (D.str (digs (n / 10) ++ b))), ([] : Hp))) hd)
theorem sign43 (x : Int) (k : Nat) (hk : 0 < k) : icall Try.prog cfg k 43 [.d (.int .i64 x)] [] = some (.ret (.d (.str (signK x))), []) := by
  obtain ⟨k, rfl⟩ : ∃ j, k = j + 1 := ⟨k - 1, by omega⟩
  unfold signK
  rw [icall_body rfl Try.func43]
  obtain ⟨lp, hlp⟩ : ∃ lp, lp = lpOf Try.prog cfg (icall Try.prog cfg k) Try.f43.ntmps 43 k (([] : Hp).map (·.1)) := ⟨_, rfl⟩
  rw [← hlp]
  conv => lhs; whnf
  refine iteK_beq (fun h1 => ?_) (fun h1 => ?_)
  · obtain rfl : x = (14 : Int) := h1
    conv => lhs; whnf
    refine Eq.trans (b := some (Res.ret (AV.d (D.str [(124 : UInt8)])), [])) (by kernel_rfl) ?_
    rfl
  · rw [beq_f h1]
    conv => lhs; whnf
    refine iteK_beq (fun h2 => ?_) (fun h2 => ?_)
    · obtain rfl : x = (13 : Int) := h2
      conv => lhs; whnf
      refine Eq.trans (b := some (Res.ret (AV.d (D.str [(38 : UInt8)])), [])) (by kernel_rfl) ?_
      rfl
    · rw [beq_f h2]
      conv => lhs; whnf
      refine iteK_beq (fun h3 => ?_) (fun h3 => ?_)
      · obtain rfl : x = (11 : Int) := h3
        conv => lhs; whnf
        refine Eq.trans (b := some (Res.ret (AV.d (D.str [(61 : UInt8)])), [])) (by kernel_rfl) ?_
        rfl
      · rw [beq_f h3]
        conv => lhs; whnf
        refine iteK_beq (fun h4 => ?_) (fun h4 => ?_)
        · obtain rfl : x = (12 : Int) := h4
          conv => lhs; whnf
          refine Eq.trans (b := some (Res.ret (AV.d (D.str [(60 : UInt8)])), [])) (by kernel_rfl) ?_
          rfl
        · rw [beq_f h4]
          conv => lhs; whnf
          refine iteK_beq (fun h5 => ?_) (fun h5 => ?_)
          · obtain rfl : x = (7 : Int) := h5
            conv => lhs; whnf
            refine Eq.trans (b := some (Res.ret (AV.d (D.str [(43 : UInt8)])), [])) (by kernel_rfl) ?_
            rfl
          · rw [beq_f h5]
            conv => lhs; whnf
            refine iteK_beq (fun h6 => ?_) (fun h6 => ?_)
            · obtain rfl : x = (8 : Int) := h6
              conv => lhs; whnf
              refine Eq.trans (b := some (Res.ret (AV.d (D.str [(45 : UInt8)])), [])) (by kernel_rfl) ?_
              rfl
            · rw [beq_f h6]
              conv => lhs; whnf
              refine iteK_beq (fun h7 => ?_) (fun h7 => ?_)
              · obtain rfl : x = (9 : Int) := h7
                conv => lhs; whnf
                refine Eq.trans (b := some (Res.ret (AV.d (D.str [(42 : UInt8)])), [])) (by kernel_rfl) ?_
                rfl
              · rw [beq_f h7]
                conv => lhs; whnf
                refine Eq.trans (b := some (Res.ret (AV.d (D.str [(47 : UInt8)])), [])) (by kernel_rfl) ?_
                (simp only [*]; rfl)
theorem level35 (x : Int) (k : Nat) (hk : 0 < k) : icall Try.prog cfg k 35 [.d (.int .i64 x)] [] = some (.ret (.d (.int .i64 (levelK x))), []) := by
  obtain ⟨k, rfl⟩ : ∃ j, k = j + 1 := ⟨k - 1, by omega⟩
  unfold levelK
  rw [icall_body rfl Try.func35]
  obtain ⟨lp, hlp⟩ : ∃ lp, lp = lpOf Try.prog cfg (icall Try.prog cfg k) Try.f35.ntmps 35 k (([] : Hp).map (·.1)) := ⟨_, rfl⟩
  rw [← hlp]
  conv => lhs; whnf
  refine iteK_beq (fun h1 => ?_) (fun h1 => ?_)
  · obtain rfl : x = (14 : Int) := h1
    conv => lhs; whnf
    refine Eq.trans (b := some (Res.ret (AV.d (D.int IntKind.i64 (1 : Int))), [])) (by kernel_rfl) ?_
    rfl
  · rw [beq_f h1]
    conv => lhs; whnf
    refine iteK_beq (fun h2 => ?_) (fun h2 => ?_)
    · obtain rfl : x = (13 : Int) := h2
      conv => lhs; whnf
      refine Eq.trans (b := some (Res.ret (AV.d (D.int IntKind.i64 (2 : Int))), [])) (by kernel_rfl) ?_
      rfl
    · rw [beq_f h2]
      conv => lhs; whnf
      refine iteK_beq (fun h3 => ?_) (fun h3 => ?_)
      · obtain rfl : x = (11 : Int) := h3
        conv => lhs; whnf
        refine Eq.trans (b := some (Res.ret (AV.d (D.int IntKind.i64 (3 : Int))), [])) (by kernel_rfl) ?_
        rfl
      · rw [beq_f h3]
        conv => lhs; whnf
        refine iteK_beq (fun h4 => ?_) (fun h4 => ?_)
        · obtain rfl : x = (12 : Int) := h4
          conv => lhs; whnf
          refine Eq.trans (b := some (Res.ret (AV.d (D.int IntKind.i64 (3 : Int))), [])) (by kernel_rfl) ?_
          rfl
        · rw [beq_f h4]
          conv => lhs; whnf
          refine iteK_beq (fun h5 => ?_) (fun h5 => ?_)
          · obtain rfl : x = (7 : Int) := h5
            conv => lhs; whnf
            refine Eq.trans (b := some (Res.ret (AV.d (D.int IntKind.i64 (4 : Int))), [])) (by kernel_rfl) ?_
            rfl
          · rw [beq_f h5]
            conv => lhs; whnf
            refine iteK_beq (fun h6 => ?_) (fun h6 => ?_)
            · obtain rfl : x = (8 : Int) := h6
              conv => lhs; whnf
              refine Eq.trans (b := some (Res.ret (AV.d (D.int IntKind.i64 (4 : Int))), [])) (by kernel_rfl) ?_
              rfl
            · rw [beq_f h6]
              conv => lhs; whnf
              refine iteK_beq (fun h7 => ?_) (fun h7 => ?_)
              · obtain rfl : x = (9 : Int) := h7
                conv => lhs; whnf
                refine Eq.trans (b := some (Res.ret (AV.d (D.int IntKind.i64 (5 : Int))), [])) (by kernel_rfl) ?_
                rfl
              · rw [beq_f h7]
                conv => lhs; whnf
                refine iteK_beq (fun h8 => ?_) (fun h8 => ?_)
                · obtain rfl : x = (10 : Int) := h8
                  conv => lhs; whnf
                  refine Eq.trans (b := some (Res.ret (AV.d (D.int IntKind.i64 (5 : Int))), [])) (by kernel_rfl) ?_
                  rfl
                · rw [beq_f h8]
                  conv => lhs; whnf
                  refine Eq.trans (b := some (Res.ret (AV.d (D.int IntKind.i64 (6 : Int))), [])) (by kernel_rfl) ?_
                  (exact ret_i (by simp [*]))
end Go.Rx07
