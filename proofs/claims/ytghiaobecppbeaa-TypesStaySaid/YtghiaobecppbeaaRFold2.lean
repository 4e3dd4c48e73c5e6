/- A part of the proof of the law: what functions of the program come to, walked by Rx, or plain facts on it. -/
import Derived.Test.YtghiaobecppbeaaRFold
import Derived.Test.YtghiaobecppbeaaRxJc
open Go Go.Rx Go.Proofs Go.Rx08 Go.RxTree
set_option maxRecDepth 1000000
set_option maxHeartbeats 4000000
set_option linter.unusedVariables false
set_option linter.unusedSimpArgs false
namespace Go.Rx08
theorem sums72 (x a b : Int) (ha : 0 ≤ a ∧ a ≤ 9223372036854775807) (hb : 0 ≤ b ∧ b ≤ 9223372036854775807) (k : Nat) (hk : 1 < k) : icall Try.prog cfg k 72 [.d (.int .i64 x), .d (.int .i64 a), .d (.int .i64 b)] [] = some (.ret (.tuple [exA ((sumsT x a b).getD (.mk 0 0 [] [])), .d (.bool (sumsT x a b).isSome)]), []) := by
  obtain ⟨k, rfl⟩ : ∃ j, k = j + 1 := ⟨k - 1, by omega⟩
  have q1 : IntKind.i64.wrap (9223372036854775807 - a) = 9223372036854775807 - a := wrap_i64 (by omega) (by omega)
  have hd := tdiv_b ha hb
  have hm := fun h => @mul_most a b ha h
  have hq : a ≠ 0 → IntKind.i64.wrap ((9223372036854775807 : Int).tdiv a) = (9223372036854775807 : Int).tdiv a := fun h => by
    have := tdiv_b (a := 9223372036854775807) (b := a) (by omega) ha
    exact wrap_i64 (by omega) (by omega)
  rw [icall_body rfl Try.func72]
  obtain ⟨lp, hlp⟩ : ∃ lp, lp = lpOf Try.prog cfg (icall Try.prog cfg k) Try.f72.ntmps 72 k (([] : Hp).map (·.1)) := ⟨_, rfl⟩
  rw [← hlp]
  conv => lhs; whnf
  refine iteK_beq (fun h1 => ?_) (fun h1 => ?_)
  · obtain rfl : x = (7 : Int) := h1
    conv => lhs; whnf
    refine iteK_dec (fun h2 => ?_) (fun h2 => ?_)
    · rw [dec_t h2]
      conv => lhs; whnf
      refine nextK_of (num84 _ k (by omega)) ?_
      conv => lhs; whnf
      refine Eq.trans (b := some (Res.ret (AV.tuple [AV.agg [AV.d (D.int IntKind.i64 (T.kind (numT (IntKind.wrap IntKind.i64 (a + b))))), AV.d (D.int IntKind.i64 (T.n (numT (IntKind.wrap IntKind.i64 (a + b))))), AV.d (D.str (T.name (numT (IntKind.wrap IntKind.i64 (a + b))))), AV.d (D.list (cellsL (T.kids (numT (IntKind.wrap IntKind.i64 (a + b))))))], AV.d (D.bool true)]), [])) (by kernel_rfl) ?_
      (rw [s7, if_pos (by omega), wrap_i64 (by omega) (by omega)]; rfl)
    · rw [dec_f h2]
      conv => lhs; whnf
      refine Eq.trans (b := some (Res.ret (AV.tuple [AV.agg [AV.d (D.int IntKind.i64 (0 : Int)), AV.d (D.int IntKind.i64 (0 : Int)), AV.d (D.str []), AV.d (D.list [])], AV.d (D.bool false)]), [])) (by kernel_rfl) ?_
      (rw [s7, if_neg (by omega)]; rfl)
  · rw [beq_f h1]
    conv => lhs; whnf
    refine iteK_beq (fun h2 => ?_) (fun h2 => ?_)
    · obtain rfl : x = (8 : Int) := h2
      conv => lhs; whnf
      refine iteK_dec (fun h3 => ?_) (fun h3 => ?_)
      · rw [dec_t h3]
        conv => lhs; whnf
        refine nextK_of (num84 _ k (by omega)) ?_
        conv => lhs; whnf
        refine Eq.trans (b := some (Res.ret (AV.tuple [AV.agg [AV.d (D.int IntKind.i64 (T.kind (numT (IntKind.wrap IntKind.i64 (a - b))))), AV.d (D.int IntKind.i64 (T.n (numT (IntKind.wrap IntKind.i64 (a - b))))), AV.d (D.str (T.name (numT (IntKind.wrap IntKind.i64 (a - b))))), AV.d (D.list (cellsL (T.kids (numT (IntKind.wrap IntKind.i64 (a - b))))))], AV.d (D.bool true)]), [])) (by kernel_rfl) ?_
        (rw [s8, if_pos (by omega), wrap_i64 (by omega) (by omega)]; rfl)
      · rw [dec_f h3]
        conv => lhs; whnf
        refine Eq.trans (b := some (Res.ret (AV.tuple [AV.agg [AV.d (D.int IntKind.i64 (0 : Int)), AV.d (D.int IntKind.i64 (0 : Int)), AV.d (D.str []), AV.d (D.list [])], AV.d (D.bool false)]), [])) (by kernel_rfl) ?_
        (rw [s8, if_neg (by omega)]; rfl)
    · rw [beq_f h2]
      conv => lhs; whnf
      refine iteK_beq (fun h3 => ?_) (fun h3 => ?_)
      · obtain rfl : x = (9 : Int) := h3
        conv => lhs; whnf
        refine iteK_beq (fun h4 => ?_) (fun h4 => ?_)
        · obtain rfl : a = (0 : Int) := h4
          conv => lhs; whnf
          refine nextK_of (num84 _ k (by omega)) ?_
          conv => lhs; whnf
          refine Eq.trans (b := some (Res.ret (AV.tuple [AV.agg [AV.d (D.int IntKind.i64 (T.kind (numT (IntKind.wrap IntKind.i64 ((0 : Int) * b))))), AV.d (D.int IntKind.i64 (T.n (numT (IntKind.wrap IntKind.i64 ((0 : Int) * b))))), AV.d (D.str (T.name (numT (IntKind.wrap IntKind.i64 ((0 : Int) * b))))), AV.d (D.list (cellsL (T.kids (numT (IntKind.wrap IntKind.i64 ((0 : Int) * b))))))], AV.d (D.bool true)]), [])) (by kernel_rfl) ?_
          (rw [s9, if_pos (by simp), Int.zero_mul, wrap_i64 (by omega) (by omega)]; rfl)
        · rw [beq_f h4]
          conv => lhs; whnf
          refine nextK_of (aop_quo rfl rfl (by first | assumption | omega)) ?_
          conv => lhs; whnf
          refine iteK_dec (fun h5 => ?_) (fun h5 => ?_)
          · rw [dec_t h5]
            conv => lhs; whnf
            refine nextK_of (num84 _ k (by omega)) ?_
            conv => lhs; whnf
            refine Eq.trans (b := some (Res.ret (AV.tuple [AV.agg [AV.d (D.int IntKind.i64 (T.kind (numT (IntKind.wrap IntKind.i64 (a * b))))), AV.d (D.int IntKind.i64 (T.n (numT (IntKind.wrap IntKind.i64 (a * b))))), AV.d (D.str (T.name (numT (IntKind.wrap IntKind.i64 (a * b))))), AV.d (D.list (cellsL (T.kids (numT (IntKind.wrap IntKind.i64 (a * b))))))], AV.d (D.bool true)]), [])) (by kernel_rfl) ?_
            (rw [s9, if_pos ((hm (by assumption)).1 (by rw [← hq (by assumption)]; assumption)), wrap_i64 (by have := Int.mul_nonneg ha.1 hb.1; omega) ((hm (by assumption)).1 (by rw [← hq (by assumption)]; assumption))]; rfl)
          · rw [dec_f h5]
            conv => lhs; whnf
            refine Eq.trans (b := some (Res.ret (AV.tuple [AV.agg [AV.d (D.int IntKind.i64 (0 : Int)), AV.d (D.int IntKind.i64 (0 : Int)), AV.d (D.str []), AV.d (D.list [])], AV.d (D.bool false)]), [])) (by kernel_rfl) ?_
            (rw [s9, if_neg (fun h => absurd ((hm (by assumption)).2 h) (by rw [← hq (by assumption)]; assumption))]; rfl)
      · rw [beq_f h3]
        conv => lhs; whnf
        refine iteK_beq (fun h4 => ?_) (fun h4 => ?_)
        · obtain rfl : x = (10 : Int) := h4
          conv => lhs; whnf
          refine iteK_dec (fun h5 => ?_) (fun h5 => ?_)
          · rw [dec_t h5]
            conv => lhs; whnf
            refine nextK_of (aop_quo rfl rfl (by first | assumption | omega)) ?_
            conv => lhs; whnf
            refine nextK_of (num84 _ k (by omega)) ?_
            conv => lhs; whnf
            refine Eq.trans (b := some (Res.ret (AV.tuple [AV.agg [AV.d (D.int IntKind.i64 (T.kind (numT (IntKind.wrap IntKind.i64 (Int.tdiv a b))))), AV.d (D.int IntKind.i64 (T.n (numT (IntKind.wrap IntKind.i64 (Int.tdiv a b))))), AV.d (D.str (T.name (numT (IntKind.wrap IntKind.i64 (Int.tdiv a b))))), AV.d (D.list (cellsL (T.kids (numT (IntKind.wrap IntKind.i64 (Int.tdiv a b))))))], AV.d (D.bool true)]), [])) (by kernel_rfl) ?_
            (rw [s10, if_pos (by omega), wrap_i64 (by have := tdiv_b ha hb; omega) (by have := tdiv_b ha hb; omega), Int.tdiv_eq_ediv_of_nonneg ha.1]; rfl)
          · rw [dec_f h5]
            conv => lhs; whnf
            refine Eq.trans (b := some (Res.ret (AV.tuple [AV.agg [AV.d (D.int IntKind.i64 (0 : Int)), AV.d (D.int IntKind.i64 (0 : Int)), AV.d (D.str []), AV.d (D.list [])], AV.d (D.bool false)]), [])) (by kernel_rfl) ?_
            (rw [s10, if_neg (by omega)]; rfl)
        · rw [beq_f h4]
          conv => lhs; whnf
          refine iteK_beq (fun h5 => ?_) (fun h5 => ?_)
          · obtain rfl : x = (12 : Int) := h5
            conv => lhs; whnf
            refine nextK_of (yes52 _ k (by omega)) ?_
            conv => lhs; whnf
            refine Eq.trans (b := some (Res.ret (AV.tuple [AV.agg [AV.d (D.int IntKind.i64 (T.kind (yesT (decide (a < b))))), AV.d (D.int IntKind.i64 (T.n (yesT (decide (a < b))))), AV.d (D.str (T.name (yesT (decide (a < b))))), AV.d (D.list (cellsL (T.kids (yesT (decide (a < b))))))], AV.d (D.bool true)]), [])) (by kernel_rfl) ?_
            (rw [s12]; rfl)
          · rw [beq_f h5]
            conv => lhs; whnf
            refine Eq.trans (b := some (Res.ret (AV.tuple [AV.agg [AV.d (D.int IntKind.i64 (0 : Int)), AV.d (D.int IntKind.i64 (0 : Int)), AV.d (D.str []), AV.d (D.list [])], AV.d (D.bool false)]), [])) (by kernel_rfl) ?_
            (rw [sE (by assumption) (by assumption) (by assumption) (by assumption) (by assumption)]; rfl)
theorem both49 (x a b : Int) (ha : 0 ≤ a ∧ a ≤ 9223372036854775807) (hb : 0 ≤ b ∧ b ≤ 9223372036854775807) (k : Nat) (hk : 1 < k) : icall Try.prog cfg k 49 [.d (.int .i64 x), .d (.int .i64 a), .d (.int .i64 b)] [] = some (.ret (.tuple [exA (bothV x a b), .d (.bool (bothT x a b).isSome)]), []) := by
  obtain ⟨k, rfl⟩ : ∃ j, k = j + 1 := ⟨k - 1, by omega⟩
  have q1 : IntKind.i64.wrap (9223372036854775807 - b) = 9223372036854775807 - b := wrap_i64 (by omega) (by omega)
  have hm := fun h => @mul_most b a hb h
  have hq : b ≠ 0 → IntKind.i64.wrap ((9223372036854775807 : Int).tdiv b) = (9223372036854775807 : Int).tdiv b := fun h => by
    have := tdiv_b (a := 9223372036854775807) (b := b) (by omega) hb
    exact wrap_i64 (by omega) (by omega)
  rw [icall_body rfl Try.func49]
  obtain ⟨lp, hlp⟩ : ∃ lp, lp = lpOf Try.prog cfg (icall Try.prog cfg k) Try.f49.ntmps 49 k (([] : Hp).map (·.1)) := ⟨_, rfl⟩
  rw [← hlp]
  conv => lhs; whnf
  refine iteK_beq (fun h1 => ?_) (fun h1 => ?_)
  · obtain rfl : x = (7 : Int) := h1
    conv => lhs; whnf
    refine Eq.trans (b := some (Res.ret (AV.tuple [AV.agg [AV.d (D.int IntKind.i64 (1 : Int)), AV.d (D.int IntKind.i64 (IntKind.wrap IntKind.i64 (a + b))), AV.d (D.str []), AV.d (D.list [])], AV.d (D.bool (decide (a ≤ IntKind.wrap IntKind.i64 ((9223372036854775807 : Int) - b))))]), [])) (by kernel_rfl) ?_
    (rw [bN (by omega), s7, iss, q1, show decide (a ≤ 9223372036854775807 - b) = decide (a + b ≤ 9223372036854775807) from decide_eq_decide.2 (by omega)]; rfl)
  · rw [beq_f h1]
    conv => lhs; whnf
    refine iteK_beq (fun h2 => ?_) (fun h2 => ?_)
    · obtain rfl : x = (8 : Int) := h2
      conv => lhs; whnf
      refine Eq.trans (b := some (Res.ret (AV.tuple [AV.agg [AV.d (D.int IntKind.i64 (1 : Int)), AV.d (D.int IntKind.i64 (IntKind.wrap IntKind.i64 (a - b))), AV.d (D.str []), AV.d (D.list [])], AV.d (D.bool (decide (a ≥ b)))]), [])) (by kernel_rfl) ?_
      (rw [bN (by omega), s8, iss]; rfl)
    · rw [beq_f h2]
      conv => lhs; whnf
      refine iteK_beq (fun h3 => ?_) (fun h3 => ?_)
      · obtain rfl : x = (9 : Int) := h3
        conv => lhs; whnf
        refine iteO_t (by kernel_rfl) ?_
        conv => lhs; whnf
        refine iteK_beq (fun h4 => ?_) (fun h4 => ?_)
        · obtain rfl : b = (0 : Int) := h4
          conv => lhs; whnf
          refine iteO_t (by kernel_rfl) ?_
          conv => lhs; whnf
          refine Eq.trans (b := some (Res.ret (AV.tuple [AV.agg [AV.d (D.int IntKind.i64 (1 : Int)), AV.d (D.int IntKind.i64 (IntKind.wrap IntKind.i64 (a * (0 : Int)))), AV.d (D.str []), AV.d (D.list [])], AV.d (D.bool true)]), [])) (by kernel_rfl) ?_
          (rw [bN (by omega), s9, iss, dec_t (by simp)]; rfl)
        · rw [beq_f h4]
          conv => lhs; whnf
          refine nextK_of (aop_quo rfl rfl (by first | assumption | omega)) ?_
          conv => lhs; whnf
          refine iteO_t (by kernel_rfl) ?_
          conv => lhs; whnf
          refine Eq.trans (b := some (Res.ret (AV.tuple [AV.agg [AV.d (D.int IntKind.i64 (1 : Int)), AV.d (D.int IntKind.i64 (IntKind.wrap IntKind.i64 (a * b))), AV.d (D.str []), AV.d (D.list [])], AV.d (D.bool (decide (a ≤ IntKind.wrap IntKind.i64 (Int.tdiv (9223372036854775807 : Int) b))))]), [])) (by kernel_rfl) ?_
          (rw [bN (by omega), s9, iss, hq (by assumption), show decide (a ≤ (9223372036854775807 : Int).tdiv b) = decide (a * b ≤ 9223372036854775807) from decide_eq_decide.2 (by rw [hm (by assumption), Int.mul_comm])]; rfl)
      · rw [beq_f h3]
        conv => lhs; whnf
        refine iteK_beq (fun h4 => ?_) (fun h4 => ?_)
        · obtain rfl : x = (10 : Int) := h4
          conv => lhs; whnf
          refine iteK_beq (fun h5 => ?_) (fun h5 => ?_)
          · obtain rfl : b = (0 : Int) := h5
            conv => lhs; whnf
            refine Eq.trans (b := some (Res.ret (AV.tuple [AV.agg [AV.d (D.int IntKind.i64 (0 : Int)), AV.d (D.int IntKind.i64 (0 : Int)), AV.d (D.str []), AV.d (D.list [])], AV.d (D.bool false)]), [])) (by kernel_rfl) ?_
            (rw [bN (by omega), s10, iss, dec_f (by omega)]; rfl)
          · rw [beq_f h5]
            conv => lhs; whnf
            refine nextK_of (aop_quo rfl rfl (by first | assumption | omega)) ?_
            conv => lhs; whnf
            refine Eq.trans (b := some (Res.ret (AV.tuple [AV.agg [AV.d (D.int IntKind.i64 (1 : Int)), AV.d (D.int IntKind.i64 (IntKind.wrap IntKind.i64 (Int.tdiv a b))), AV.d (D.str []), AV.d (D.list [])], AV.d (D.bool true)]), [])) (by kernel_rfl) ?_
            (rw [bN (by omega), s10, iss, dec_t (show 0 < b by omega), bV10 (by assumption)]; rfl)
        · rw [beq_f h4]
          conv => lhs; whnf
          refine iteK_beq (fun h5 => ?_) (fun h5 => ?_)
          · obtain rfl : x = (12 : Int) := h5
            conv => lhs; whnf
            refine nextK_of (yes48 _ k (by omega)) ?_
            conv => lhs; whnf
            refine Eq.trans (b := some (Res.ret (AV.tuple [AV.agg [AV.d (D.int IntKind.i64 (T.kind (yesT (decide (a < b))))), AV.d (D.int IntKind.i64 (T.n (yesT (decide (a < b))))), AV.d (D.str (T.name (yesT (decide (a < b))))), AV.d (D.list (cellsL (T.kids (yesT (decide (a < b))))))], AV.d (D.bool true)]), [])) (by kernel_rfl) ?_
            (rw [bN (by omega), s12]; rfl)
          · rw [beq_f h5]
            conv => lhs; whnf
            refine iteK_beq (fun h6 => ?_) (fun h6 => ?_)
            · obtain rfl : x = (11 : Int) := h6
              conv => lhs; whnf
              refine nextK_of (yes48 _ k (by omega)) ?_
              conv => lhs; whnf
              refine Eq.trans (b := some (Res.ret (AV.tuple [AV.agg [AV.d (D.int IntKind.i64 (T.kind (yesT (a == b)))), AV.d (D.int IntKind.i64 (T.n (yesT (a == b)))), AV.d (D.str (T.name (yesT (a == b)))), AV.d (D.list (cellsL (T.kids (yesT (a == b)))))], AV.d (D.bool true)]), [])) (by kernel_rfl) ?_
              (rw [b11]; rfl)
            · rw [beq_f h6]
              conv => lhs; whnf
              refine Eq.trans (b := some (Res.ret (AV.tuple [AV.agg [AV.d (D.int IntKind.i64 (0 : Int)), AV.d (D.int IntKind.i64 (0 : Int)), AV.d (D.str []), AV.d (D.list [])], AV.d (D.bool false)]), [])) (by kernel_rfl) ?_
              (rw [bN (by omega), sE (by assumption) (by assumption) (by assumption) (by assumption) (by assumption), bE (by assumption) (by assumption) (by assumption) (by assumption) (by assumption) (by assumption)]; rfl)
theorem two50 (x : Int) (a b : T) (ha : 0 ≤ a.n ∧ a.n ≤ 9223372036854775807) (hb : 0 ≤ b.n ∧ b.n ≤ 9223372036854775807) (k : Nat) (hk : 2 < k) : icall Try.prog cfg k 50 [.d (.int .i64 x), a.av, b.av] [] = some (.ret (twoT x a b).av, []) := by
  obtain ⟨k, rfl⟩ : ∃ j, k = j + 1 := ⟨k - 1, by omega⟩
  have p1 := plain51 a k (by omega)
  have p2 := plain51 b k (by omega)
  have ce : cellsL [a, b] = [[.int .i64 a.kind, .int .i64 a.n, .str a.name, .list (cellsL a.kids)], [.int .i64 b.kind, .int .i64 b.n, .str b.name, .list (cellsL b.kids)]] := by simp [cellsL, cells_eq]
  have hw : ∀ x : Int, (T.mk x 0 [] [a, b]).av = .agg [.d (.int .i64 x), .d (.int .i64 0), .d (.str []), .d (.list [[.int .i64 a.kind, .int .i64 a.n, .str a.name, .list (cellsL a.kids)], [.int .i64 b.kind, .int .i64 b.n, .str b.name, .list (cellsL b.kids)]])] := fun x => by rw [← ce]; rfl
  show icall Try.prog cfg _ _ [_, exA a, exA b] [] = _
  rw [icall_body rfl Try.func50]
  obtain ⟨lp, hlp⟩ : ∃ lp, lp = lpOf Try.prog cfg (icall Try.prog cfg k) Try.f50.ntmps 50 k (([] : Hp).map (·.1)) := ⟨_, rfl⟩
  rw [← hlp]
  conv => lhs; whnf
  refine iteK_beq (fun h1 => ?_) (fun h1 => ?_)
  · obtain rfl : x = (13 : Int) := h1
    conv => lhs; whnf
    refine iteK_beq (fun h2 => ?_) (fun h2 => ?_)
    · rw [beq_t h2]
      conv => lhs; whnf
      refine Eq.trans (b := some (Res.ret (AV.agg [AV.d (D.int IntKind.i64 (T.kind a)), AV.d (D.int IntKind.i64 (T.n a)), AV.d (D.str (T.name a)), AV.d (D.list (cellsL (T.kids a)))]), [])) (by kernel_rfl) ?_
      (rw [t13a (by assumption)]; rfl)
    · rw [beq_f h2]
      conv => lhs; whnf
      refine iteK_beq (fun h3 => ?_) (fun h3 => ?_)
      · rw [beq_t h3]
        conv => lhs; whnf
        refine Eq.trans (b := some (Res.ret (AV.agg [AV.d (D.int IntKind.i64 (T.kind b)), AV.d (D.int IntKind.i64 (T.n b)), AV.d (D.str (T.name b)), AV.d (D.list (cellsL (T.kids b)))]), [])) (by kernel_rfl) ?_
        (rw [t13b (by assumption) (by assumption)]; rfl)
      · rw [beq_f h3]
        conv => lhs; whnf
        refine Eq.trans (b := some (Res.ret (AV.agg [AV.d (D.int IntKind.i64 (13 : Int)), AV.d (D.int IntKind.i64 (0 : Int)), AV.d (D.str []), AV.d (D.list [[D.int IntKind.i64 (T.kind a), D.int IntKind.i64 (T.n a), D.str (T.name a), D.list (cellsL (T.kids a))], [D.int IntKind.i64 (T.kind b), D.int IntKind.i64 (T.n b), D.str (T.name b), D.list (cellsL (T.kids b))]])]), [])) (by kernel_rfl) ?_
        (rw [t13c (by assumption) (by assumption), hw])
  · rw [beq_f h1]
    conv => lhs; whnf
    refine iteK_beq (fun h2 => ?_) (fun h2 => ?_)
    · obtain rfl : x = (14 : Int) := h2
      conv => lhs; whnf
      refine iteK_beq (fun h3 => ?_) (fun h3 => ?_)
      · rw [beq_t h3]
        conv => lhs; whnf
        refine Eq.trans (b := some (Res.ret (AV.agg [AV.d (D.int IntKind.i64 (T.kind a)), AV.d (D.int IntKind.i64 (T.n a)), AV.d (D.str (T.name a)), AV.d (D.list (cellsL (T.kids a)))]), [])) (by kernel_rfl) ?_
        (rw [t14a (by assumption)]; rfl)
      · rw [beq_f h3]
        conv => lhs; whnf
        refine iteK_beq (fun h4 => ?_) (fun h4 => ?_)
        · rw [beq_t h4]
          conv => lhs; whnf
          refine Eq.trans (b := some (Res.ret (AV.agg [AV.d (D.int IntKind.i64 (T.kind b)), AV.d (D.int IntKind.i64 (T.n b)), AV.d (D.str (T.name b)), AV.d (D.list (cellsL (T.kids b)))]), [])) (by kernel_rfl) ?_
          (rw [t14b (by assumption) (by assumption)]; rfl)
        · rw [beq_f h4]
          conv => lhs; whnf
          refine Eq.trans (b := some (Res.ret (AV.agg [AV.d (D.int IntKind.i64 (14 : Int)), AV.d (D.int IntKind.i64 (0 : Int)), AV.d (D.str []), AV.d (D.list [[D.int IntKind.i64 (T.kind a), D.int IntKind.i64 (T.n a), D.str (T.name a), D.list (cellsL (T.kids a))], [D.int IntKind.i64 (T.kind b), D.int IntKind.i64 (T.n b), D.str (T.name b), D.list (cellsL (T.kids b))]])]), [])) (by kernel_rfl) ?_
          (rw [t14c (by assumption) (by assumption), hw])
    · rw [beq_f h2]
      conv => lhs; whnf
      refine nextK_b p1 (fun h3 => ?_) (fun h3 => ?_)
      · conv => lhs; whnf
        refine nextK_b p2 (fun h4 => ?_) (fun h4 => ?_)
        · conv => lhs; whnf
          refine iteK_beq (fun h5 => ?_) (fun h5 => ?_)
          · obtain rfl : x = (11 : Int) := h5
            conv => lhs; whnf
            refine nextK_b (same71 a b k (by omega)) (fun h6 => ?_) (fun h6 => ?_)
            · conv => lhs; whnf
              refine nextK_of (yes52 _ k (by omega)) ?_
              conv => lhs; whnf
              refine Eq.trans (b := some (Res.ret (AV.agg [AV.d (D.int IntKind.i64 (3 : Int)), AV.d (D.int IntKind.i64 (0 : Int)), AV.d (D.str (T.name (yesT true))), AV.d (D.list (cellsL (T.kids (yesT true))))]), [])) (by kernel_rfl) ?_
              (rw [t11 (by assumption) (by assumption), show (a.kind == b.kind && a.n == b.n) = true by assumption]; rfl)
            · conv => lhs; whnf
              refine nextK_of (yes52 _ k (by omega)) ?_
              conv => lhs; whnf
              refine Eq.trans (b := some (Res.ret (AV.agg [AV.d (D.int IntKind.i64 (4 : Int)), AV.d (D.int IntKind.i64 (0 : Int)), AV.d (D.str (T.name (yesT false))), AV.d (D.list (cellsL (T.kids (yesT false))))]), [])) (by kernel_rfl) ?_
              (rw [t11 (by assumption) (by assumption), show (a.kind == b.kind && a.n == b.n) = false by assumption]; rfl)
          · rw [beq_f h5]
            conv => lhs; whnf
            refine nextK_of (sums72 x a.n b.n ha hb k (by omega)) ?_
            conv => lhs; whnf
            refine iteK_of (fun h6 => ?_) (fun h6 => ?_)
            · rw [h6]
              conv => lhs; whnf
              refine Eq.trans (b := some (Res.ret (AV.agg [AV.d (D.int IntKind.i64 (T.kind (Option.getD (sumsT x (T.n a) (T.n b)) (T.mk (0 : Int) (0 : Int) [] [])))), AV.d (D.int IntKind.i64 (T.n (Option.getD (sumsT x (T.n a) (T.n b)) (T.mk (0 : Int) (0 : Int) [] [])))), AV.d (D.str (T.name (Option.getD (sumsT x (T.n a) (T.n b)) (T.mk (0 : Int) (0 : Int) [] [])))), AV.d (D.list (cellsL (T.kids (Option.getD (sumsT x (T.n a) (T.n b)) (T.mk (0 : Int) (0 : Int) [] [])))))]), [])) (by kernel_rfl) ?_
              (rw [tS (by assumption) (by assumption) (by assumption) (by assumption) (by assumption), show (sumsT x a.n b.n).getD (.mk x 0 [] [a, b]) = (sumsT x a.n b.n).getD (.mk 0 0 [] []) from getD_some (by assumption)]; rfl)
            · rw [h6]
              conv => lhs; whnf
              refine Eq.trans (b := some (Res.ret (AV.agg [AV.d (D.int IntKind.i64 x), AV.d (D.int IntKind.i64 (0 : Int)), AV.d (D.str []), AV.d (D.list [[D.int IntKind.i64 (T.kind a), D.int IntKind.i64 (T.n a), D.str (T.name a), D.list (cellsL (T.kids a))], [D.int IntKind.i64 (T.kind b), D.int IntKind.i64 (T.n b), D.str (T.name b), D.list (cellsL (T.kids b))]])]), [])) (by kernel_rfl) ?_
              (rw [tS (by assumption) (by assumption) (by assumption) (by assumption) (by assumption), getD_none (by assumption), hw])
        · conv => lhs; whnf
          refine Eq.trans (b := some (Res.ret (AV.agg [AV.d (D.int IntKind.i64 x), AV.d (D.int IntKind.i64 (0 : Int)), AV.d (D.str []), AV.d (D.list [[D.int IntKind.i64 (T.kind a), D.int IntKind.i64 (T.n a), D.str (T.name a), D.list (cellsL (T.kids a))], [D.int IntKind.i64 (T.kind b), D.int IntKind.i64 (T.n b), D.str (T.name b), D.list (cellsL (T.kids b))]])]), [])) (by kernel_rfl) ?_
          (rw [tN (by assumption) (by assumption) (.inr (by assumption)), hw])
      · conv => lhs; whnf
        refine Eq.trans (b := some (Res.ret (AV.agg [AV.d (D.int IntKind.i64 x), AV.d (D.int IntKind.i64 (0 : Int)), AV.d (D.str []), AV.d (D.list [[D.int IntKind.i64 (T.kind a), D.int IntKind.i64 (T.n a), D.str (T.name a), D.list (cellsL (T.kids a))], [D.int IntKind.i64 (T.kind b), D.int IntKind.i64 (T.n b), D.str (T.name b), D.list (cellsL (T.kids b))]])]), [])) (by kernel_rfl) ?_
        (rw [tN (by assumption) (by assumption) (.inl (by assumption)), hw])
end Go.Rx08
